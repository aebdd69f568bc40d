/- Lists of texts: a name put among others, all put in order each once. No walk stands in it. -/
import Derived.Test.YtkghhmjmfcnbnaaDoorOrd
import Derived.Test.YtkghhmjmfcnbnaaDoorMem
import Derived.Lib.SlicesCompact
namespace Go.Proofs.YtkghhmjmfcnbnaaDoor
open Go.RowKit

theorem map_toL_mkB (L : List By) : (L.map mkB).map toL = L := by
  rw [List.map_map]
  exact List.map_id'' toL_mkB L
theorem mem_mapL {L : List ByteArray} {s : ByteArray} : toL s ∈ L.map toL ↔ s ∈ L := by
  rw [List.mem_map]
  constructor
  · rintro ⟨x, hx, e⟩
    rw [← toL_inj e]; exact hx
  · exact fun h => ⟨s, h, rfl⟩
/-- s put among texts, if it does not stand there -/
def nameB (L : List ByteArray) (s : ByteArray) : List ByteArray := (nameF (L.map toL) (toL s)).map mkB
/-- what l4Name holds behind some rounds -/
def insPB (s : ByteArray) (L : List ByteArray) : List ByteArray := (insP (toL s) (L.map toL)).map mkB
/-- is one of them greater -/
def gtB (s : ByteArray) (L : List ByteArray) : Bool := (L.map toL).any fun x => bl (toL s) x
/-- all the texts of a list, each once, rising -/
def setB (L : List ByteArray) : List ByteArray := (setF (L.map toL)).map mkB
theorem setB_nil : setB [] = [] := rfl
theorem setB_snoc (L : List ByteArray) (s : ByteArray) : setB (L ++ [s]) = nameB (setB L) s := by
  unfold setB nameB
  rw [map_toL_mkB, List.map_append, List.map_cons, List.map_nil, setF_snoc]
theorem setB_len (L : List ByteArray) : (setB L).length ≤ L.length := by
  unfold setB
  rw [List.length_map]
  have := setF_len (L.map toL)
  rw [List.length_map] at this
  exact this
theorem setB_mem {L : List ByteArray} {s : ByteArray} : s ∈ setB L ↔ s ∈ L := by
  unfold setB
  rw [← mem_mapL, map_toL_mkB, setF_mem, mem_mapL]
theorem setB_rise (L : List ByteArray) : (setB L).Pairwise fun a b => bl (toL a) (toL b) = true := by
  unfold setB
  rw [List.pairwise_map]
  exact (setF_rise (L.map toL)).imp fun h => by rw [toL_mkB, toL_mkB]; exact h
theorem insPB_zero (s : ByteArray) (L : List ByteArray) : insPB s (L.take 0) = [] := rfl
theorem gtB_zero (s : ByteArray) (L : List ByteArray) : gtB s (L.take 0) = false := rfl
section
variable {s x : ByteArray} {zs : List ByteArray} {k : Nat}
theorem gtB_step (hz : zs[k]? = some x) : gtB s (zs.take (k + 1)) = (gtB s (zs.take k) || bl (toL s) (toL x)) := by
  rw [take_one hz]; simp [gtB]
theorem insPB_some (hz : zs[k]? = some x) (h : gtB s (zs.take k) = true) : insPB s (zs.take (k + 1)) = insPB s (zs.take k) ++ [x] := by
  rw [take_one hz]
  unfold insPB
  rw [List.map_append, List.map_cons, List.map_nil, insP_some h, List.map_append, List.map_cons, List.map_nil, mkB_toL]
theorem insPB_first (hz : zs[k]? = some x) (h : gtB s (zs.take k) = false) (hx : bl (toL s) (toL x) = true) : insPB s (zs.take (k + 1)) = insPB s (zs.take k) ++ [s] ++ [x] := by
  rw [take_one hz]
  unfold insPB
  rw [List.map_append, List.map_cons, List.map_nil, insP_first h hx, List.map_append, List.map_append, List.map_cons, List.map_nil, List.map_cons, List.map_nil, mkB_toL, mkB_toL]
theorem insPB_none (hz : zs[k]? = some x) (h : gtB s (zs.take k) = false) (hx : bl (toL s) (toL x) = false) : insPB s (zs.take (k + 1)) = insPB s (zs.take k) ++ [x] := by
  rw [take_one hz]
  unfold insPB
  rw [List.map_append, List.map_cons, List.map_nil, insP_none h hx, List.map_append, List.map_cons, List.map_nil, mkB_toL]
theorem insB_len (s : By) : ∀ K : List By, (insB s K).length = K.length + 1
  | [] => rfl
  | y :: r => by
    rw [insB]
    split
    · rfl
    · rw [List.length_cons, insB_len s r]; rfl
theorem insPB_len (s : ByteArray) (L : List ByteArray) : (insPB s L).length ≤ L.length + 1 := by
  unfold insPB insP
  rw [List.length_map]
  split
  · rw [insB_len, List.length_map]; exact Nat.le_refl _
  · rw [List.length_map]; omega
theorem nameB_len (L : List ByteArray) (s : ByteArray) : (nameB L s).length ≤ L.length + 1 := by
  unfold nameB nameF
  rw [List.length_map]
  split
  · rw [List.length_map]; omega
  · rw [insB_len, List.length_map]; exact Nat.le_refl _
/-- s is none of the first k -/
def NotB (s : ByteArray) (zs : List ByteArray) (k : Nat) : Prop := s ∉ zs.take k
theorem notB_zero (s : ByteArray) (zs : List ByteArray) : NotB s zs 0 := by unfold NotB; simp
theorem notB_step (hz : zs[k]? = some x) (h : ¬ x = s) (hn : NotB s zs k) : NotB s zs (k + 1) := by
  unfold NotB
  rw [take_one hz]
  intro hm
  rcases List.mem_append.1 hm with h1 | h1
  · exact hn h1
  · simp at h1; exact h h1.symm
theorem nameB_there (hz : zs[k]? = some x) (h : x = s) : nameB zs s = zs := by
  subst h
  unfold nameB nameF
  rw [if_pos (mem_mapL.2 (List.mem_of_getElem? hz))]
  exact map_mkB zs
theorem nameB_some (hk : ¬ k < zs.length) (hn : NotB s zs k) (h : gtB s (zs.take k) = true) : nameB zs s = insPB s (zs.take k) := by
  unfold NotB at hn
  rw [List.take_of_length_le (by omega)] at hn h ⊢
  have h' : (zs.map toL).any (fun x => bl (toL s) x) = true := h
  unfold nameB nameF insPB insP
  rw [if_neg (fun e => hn (mem_mapL.1 e)), if_pos h']
theorem nameB_none (hk : ¬ k < zs.length) (hn : NotB s zs k) (h : gtB s (zs.take k) = false) : nameB zs s = insPB s (zs.take k) ++ [s] := by
  unfold NotB at hn
  rw [List.take_of_length_le (by omega)] at hn h ⊢
  have h' : ¬ (zs.map toL).any (fun x => bl (toL s) x) = true := by unfold gtB at h; rw [h]; simp
  unfold nameB nameF insPB insP
  rw [if_neg (fun e => hn (mem_mapL.1 e)), if_neg h', insB_none h, List.map_append, List.map_cons, List.map_nil, mkB_toL]
end

/-! ### sorted and compacted -/
theorem bl_lt : ∀ {a b : By}, bl a b = true ↔ a < b
  | a, [] => by rw [bl_nil]; simp
  | [], b :: y => by simp [bl, Op.bytesLess]
  | a :: x, b :: y => by rw [bl_cons_iff, bl_lt (a := x) (b := y), List.cons_lt_cons_iff]
theorem le_bl {a b : By} : a ≤ b ↔ ¬ bl b a = true := by rw [bl_lt]; exact Iff.rfl
theorem sort_pair (L : List By) : (L.mergeSort fun x y => decide (x ≤ y)).Pairwise fun a b => a = b ∨ bl a b = true := by
  have h := List.pairwise_mergeSort (le := fun x y : By => decide (x ≤ y)) (fun a b c h1 h2 => by
      simp only [decide_eq_true_eq, le_bl] at *
      intro h3
      rcases bl_tri b c with k | k | k
      · exact h1 (bl_trans k h3)
      · subst k; exact h1 h3
      · exact h2 k) (fun a b => by
      simp only [Bool.or_eq_true, decide_eq_true_eq, le_bl]
      by_cases k : bl b a = true
      · exact .inr (fun h => by rw [bl_asymm k] at h; cases h)
      · exact .inl k) L
  refine h.imp fun {a b} hab => ?_
  simp only [decide_eq_true_eq, le_bl] at hab
  rcases bl_tri a b with k | k | k
  · exact .inr k
  · exact .inl k
  · exact absurd k hab
theorem compact_rise {L : List By} (h : L.Pairwise fun a b => a = b ∨ bl a b = true) : Rise (Lib.compact L) ∧ ∀ x, x ∈ Lib.compact L ↔ x ∈ L := by
  have hp : ∀ i j (hi : i < L.length) (hj : j < L.length), i < j → L[i] = L[j] ∨ bl L[i] L[j] = true := List.pairwise_iff_getElem.1 h
  have hg : ∀ i (hi : i < L.length), (L.toArray)[i]! = L[i] := fun i hi => by simp [hi]
  have key : ∀ m, m ≤ L.length → Rise (Lib.compactUpTo L.toArray m) ∧ (∀ x, x ∈ Lib.compactUpTo L.toArray m ↔ x ∈ L.take m) := by
    intro m
    induction m with
    | zero => intro _; exact ⟨List.Pairwise.nil, fun x => by simp [Lib.compactUpTo]⟩
    | succ m ih =>
      intro hm
      obtain ⟨h1, h2⟩ := ih (by omega)
      have hml : m < L.length := by omega
      rw [Lib.compactUpTo_succ, take_one (List.getElem?_eq_getElem hml)]
      cases hk : Lib.keeps L.toArray m
      · have h0 : ¬ (m = 0 ∨ (L.toArray)[m]! ≠ (L.toArray)[m - 1]!) := by simpa [Lib.keeps] using hk
        have hm0 : ¬ m = 0 := fun e => h0 (.inl e)
        have he : L[m] = L[m - 1] := by
          have : ¬ (L.toArray)[m]! ≠ (L.toArray)[m - 1]! := fun e => h0 (.inr e)
          rw [hg m hml, hg (m - 1) (by omega)] at this
          exact Classical.not_not.1 this
        simp only [Bool.false_eq_true, if_false, List.append_nil]
        refine ⟨h1, fun x => ?_⟩
        rw [h2, List.mem_append, List.mem_singleton]
        constructor
        · exact .inl
        · rintro (hx | rfl)
          · exact hx
          · rw [he]; exact List.mem_take_iff_getElem.2 ⟨m - 1, by omega, rfl⟩
      · simp only [if_true, hg m hml]
        refine ⟨?_, fun x => by rw [List.mem_append, List.mem_append, h2]⟩
        unfold Rise
        rw [List.pairwise_append]
        refine ⟨h1, List.pairwise_singleton _ _, fun a ha b hb => ?_⟩
        rw [List.mem_singleton] at hb
        subst hb
        obtain ⟨i, hi, rfl⟩ := List.mem_take_iff_getElem.1 ((h2 a).1 ha)
        have him : i < m := by omega
        have hk' : m = 0 ∨ (L.toArray)[m]! ≠ (L.toArray)[m - 1]! := by simpa [Lib.keeps] using hk
        have hne : L[m] ≠ L[m - 1] := by
          rcases hk' with e | e
          · omega
          · rw [hg m hml, hg (m - 1) (by omega)] at e; exact e
        have hb2 : bl L[m - 1] L[m] = true := by
          rcases hp (m - 1) m (by omega) hml (by omega) with e | e
          · exact absurd e.symm hne
          · exact e
        by_cases e : i = m - 1
        · subst e; exact hb2
        · rcases hp i (m - 1) (by omega) (by omega) (by omega) with e1 | e1
          · rw [e1]; exact hb2
          · exact bl_trans e1 hb2
  have := key L.length (Nat.le_refl _)
  rw [List.take_length] at this
  exact this
theorem sorted_set (L : List By) : Lib.compact (L.mergeSort fun x y => decide (x ≤ y)) = setF L := by
  obtain ⟨h1, h2⟩ := compact_rise (sort_pair L)
  exact setF_of h1 fun x => by rw [h2, List.mem_mergeSort]
end Go.Proofs.YtkghhmjmfcnbnaaDoor
