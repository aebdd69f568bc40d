/- Copies of files: spec's l4Copy, impl's cloneFiles. -/
import Derived.Test.YtkghhmjmfcnbnaaDoorFileH
import Derived.Test.YtkghhmjmfcnbnaaDoorTreS
import Derived.OwnWalk
namespace Go.Proofs.YtkghhmjmfcnbnaaDoor
open Go.RowKit

theorem news_sl {α : Type} {sz : Nat} {C : α → List Value} {w : World} {ad : Addr} {n c : Nat} {zs : List α} (hl : ∀ a, (C a).length = sz) (hz : 0 < sz) (h : Sl sz C w (.slice (some ad) n c) zs) :
    ∀ j u, (zs.flatMap C)[j]? = some u → w.cell? (ad.add j) = some u := by
  intro j u hj
  obtain ⟨A', c', e, h1, h2, h3⟩ := h
  simp only [Value.slice.injEq] at e
  obtain ⟨rfl, rfl, rfl⟩ := e
  have hjl : j < zs.length * sz := by rw [← flat_len hl zs]; exact (List.getElem?_eq_some_iff.1 hj).1
  have hk : j / sz < zs.length := Nat.div_lt_of_lt_mul (by rwa [Nat.mul_comm])
  have hr : j % sz < sz := Nat.mod_lt _ hz
  have hsum : j / sz * sz + j % sz = j := by rw [Nat.mul_comm]; exact Nat.div_add_mod j sz
  have hu' : (C zs[j / sz])[j % sz]? = some ((C zs[j / sz])[j % sz]'(by rw [hl]; exact hr)) := List.getElem?_eq_getElem _
  have hf := flat_get hl (List.getElem?_eq_getElem hk) hu'
  rw [hsum, hj] at hf
  obtain ⟨b, off, e2, hb, hat⟩ := h3 _ _ (List.getElem?_eq_getElem hk)
  simp only [Option.some.injEq] at e2
  subst e2
  rw [Go.WideShapes.add_plain, ← hsum, ← Nat.add_assoc, hf]
  exact hat _ _ hu'
theorem one_file (zs : List TFile) : ∀ u ∈ zs.flatMap fileC, u.oneCell' = true := by
  intro u hu
  obtain ⟨z, _, h⟩ := List.mem_flatMap.1 hu
  simp [fileC] at h
  rcases h with rfl | rfl <;> rfl
theorem one_str (zs : List ByteArray) : ∀ u ∈ zs.map Value.string, u.oneCell' = true := by
  intro u hu
  obtain ⟨z, _, h⟩ := List.mem_map.1 hu
  subst h; rfl
theorem sl_none {α : Type} {sz : Nat} {C : α → List Value} {w : World} {n c : Nat} {zs : List α} (h : Sl sz C w (.slice none n c) zs) : zs = [] := by
  obtain ⟨A', c', e, h1, h2, h3⟩ := h
  cases zs with
  | nil => rfl
  | cons z zs =>
    obtain ⟨b, off, e2, _⟩ := h3 0 z rfl
    simp only [Value.slice.injEq] at e
    rw [e2] at e
    cases e.1
set_option maxRecDepth 100000 in
theorem cloneFiles_calls (u : Value) (zs : List TFile) (w : World) (hu : Sl 2 fileC w u zs) (hn : zs.length ≤ 1048576) :
    Calls Tryd.prog 60 #[u] w (RetOwn 2 fileC 55 zs w) := by
  obtain ⟨i0, hi, hz0, hz1, hz2⟩ := info_parts Tryd.infoFile
  obtain ⟨A, c, rfl, hc, hlc, -⟩ := file_z hu
  unfold maxLen at hc
  cases A with
  | none =>
    obtain rfl := sl_none hu
    clear hu
    go_enter Tryd.func60, Tryd.ntmps60
    go_wp2
    go_ret
    exact ⟨_, rfl, World.ownsRow_nil _ _ _ _, below0 w⟩
  | some ad =>
    have hnew := news_sl fileC_len (by omega) hu
    clear hu
    go_enter Tryd.func60, Tryd.ntmps60
    go_wp2_with (at_builtin; refine wpList_append_own _ rfl _ _ 26 rfl w.heap.size 55 i0 _ 2 32 Tryd.underlying26 hi hz0 hz1 hz2 rfl (by decide) _ 0 [] rfl (World.ownsRow_nil _ _ _ _) ad zs.length c (zs.flatMap fileC) rfl (flat_len fileC_len zs) hnew (one_file zs) (by unfold maxLen; omega) (by omega) (by simp) ?_; intro v1 w1 hown1 hgrow1 _)
    go_ret
    have hg2 : w.grownBy w1 none := hgrow1
    refine ⟨_, rfl, by unfold Own; simpa using hown1, below_of_grown hg2⟩
/-- a call that hands back a row of its own that is not nil -/
def RetRow {α : Type} (sz : Nat) (C : α → List Value) (t : TypeId) (zs : List α) (w : World) (e : Ending) (w' : World) : Prop :=
  ∃ g cap, e = .returned (.slice (some ⟨g, 0, none⟩) zs.length cap) ∧ Own sz C t w.heap.size w' (.slice (some ⟨g, 0, none⟩) zs.length cap) zs ∧ Below w.heap.size w w'
theorem row_form {w : World} {base n sz : Nat} {e : TypeId} {v : Value} {xs : List Value} (h : w.ownsRow base e sz v n xs) (hv : ¬ v = .slice none 0 0) : ∃ g cap, v = .slice (some ⟨g, 0, none⟩) n cap := by
  rcases h.2 with ⟨e, _⟩ | ⟨g, cap, _, e, _⟩
  · exact absurd e hv
  · exact ⟨g, cap, e⟩
set_option maxRecDepth 100000 in
theorem l4Copy_row (u : Value) (zs : List TFile) (w : World) (hu : Sl 2 fileC w u zs) (hn : zs.length ≤ 1048576) :
    Calls Tryd.prog 65 #[u] w (RetRow 2 fileC 55 zs w) := by
  obtain ⟨i0, hi, hz0, hz1, hz2⟩ := info_parts Tryd.infoFile
  obtain ⟨A, c, rfl, hc, hlc, -⟩ := file_z hu
  have hO : (w.alloc (.cells #[] 55)).ownsRow w.heap.size 55 2 (.slice (some ⟨w.heap.size, 0, none⟩) 0 0) 0 [] := World.ownsRow_lit w #[] 0 (Nat.le_refl _) (by simp [maxLen]) rfl
  unfold maxLen at hc
  cases A with
  | none =>
    obtain rfl := sl_none hu
    have HO := Lib.hid hO
    clear hu hO
    go_enter Tryd.func65, Tryd.ntmps65
    go_wp2
    go_ret
    exact ⟨_, _, rfl, HO.out, al (below0 w) _⟩
  | some ad =>
    have hnew := news_sl fileC_len (by omega) (hu.below (al (below0 w) (.cells #[] 55)))
    clear hu
    go_enter Tryd.func65, Tryd.ntmps65
    go_wp2_with (at_builtin; refine wpList_append_own _ rfl _ _ 26 rfl w.heap.size 55 i0 _ 2 32 Tryd.underlying26 hi hz0 hz1 hz2 rfl (by decide) _ 0 [] rfl hO ad zs.length c (zs.flatMap fileC) rfl (flat_len fileC_len zs) hnew (one_file zs) (by unfold maxLen; omega) (by omega) (by simp) ?_; intro v1 w1 hown1 hgrow1 hnn1)
    have hf : ∃ g cap, v1 = .slice (some ⟨g, 0, none⟩) (0 + zs.length) cap := row_form hown1 (fun e => by have := (hnn1.1 e).1; cases this)
    obtain ⟨g, cap, rfl⟩ := hf
    go_ret
    refine ⟨g, cap, by first | rfl | simp, by unfold Own; simpa using hown1, app_step (al (below0 w) _) hO (below0 _) hgrow1⟩
/-- the same, its length by another name -/
theorem l4Copy_rowN (u : Value) (zs : List TFile) (n : Nat) (w : World) (hu : Sl 2 fileC w u zs) (hn : zs.length ≤ 1048576) (hl : zs.length = n) :
    Calls Tryd.prog 65 #[u] w fun e w' => ∃ g cap, e = .returned (.slice (some ⟨g, 0, none⟩) n cap) ∧ w'.ownsRow w.heap.size 55 2 (.slice (some ⟨g, 0, none⟩) n cap) n (zs.flatMap fileC) ∧ Below w.heap.size w w' := by
  subst hl
  exact l4Copy_row u zs w hu hn
theorem l4Copy_calls (u : Value) (zs : List TFile) (w : World) (hu : Sl 2 fileC w u zs) (hn : zs.length ≤ 1048576) :
    Calls Tryd.prog 65 #[u] w (RetOwn 2 fileC 55 zs w) :=
  (l4Copy_row u zs w hu hn).mono fun _ _ ⟨_, _, h1, h2, h3⟩ => ⟨_, h1, h2, h3⟩
/-- append at a step of a region that draws its order -/
theorem step_append_ownT {P : Program} {ops : Array Oper} {o : Oper} {a : Act} {w : World} {K : Act → World → Prop} {Q : Exit → Act → World → Prop} {E : Prop} (hgd : o.guard = none) (s x : Operand) (t : TypeId)
    (ho : o.op = .call { callee := .builtin .append, args := #[s, x], argTypes := #[t, t] })
    (base : Nat) (e : TypeId) (i : TypeInfo) (z : Value) (size bytes : Nat) (ht : P.underlying t = some (.slice e)) (hi : P.info? e = some i) (hz : i.zero = some z)
    (hsize : i.size = size) (hby : i.bytes = bytes) (hzs : z.cells.size = size) (hsz : 0 < size)
    (v : Value) (n : Nat) (xs : List Value) (hs : a.eval s = v) (hown : w.ownsRow base e size v n xs)
    (ad : Addr) (m c : Nat) (news : List Value) (hx : a.eval x = .slice (some ad) m c) (hl : news.length = m * size) (hnews : ∀ j u, news[j]? = some u → w.cell? (ad.add j) = some u) (h1 : ∀ u ∈ news, u.oneCell' = true)
    (h63 : n + m ≤ maxLen) (hbytes : (n + m) * bytes ≤ 140737488355328) (hbase : base ≤ w.heap.size)
    (h : ∀ v' w', w'.ownsRow base e size v' (n + m) (xs ++ news) → w.grownBy w' v.ownBlock → (v' = .slice none 0 0 ↔ v = .slice none 0 0 ∧ m = 0) → K (a.put o.dst v') w') :
    if Region.wanted o (yielded ops a.tmps) = true then Oper.wp P o a w K Q else E := by
  have hw : Region.wanted o (yielded ops a.tmps) = true := by simp [Region.wanted, hgd]
  rw [if_pos hw]
  exact wp_append_own w s x t ho base e i z size bytes ht hi hz hsize hby hzs hsz v n xs hs hown ad m c news hx hl hnews h1 h63 hbytes hbase h
end Go.Proofs.YtkghhmjmfcnbnaaDoor
