/- FnTreDiffers returns true for every code; the tables that its row lists are tied to the program. No condition. -/
import Derived.Test.YtkghhmjmfcnbnaaDoorStrH
import Derived.Test.YtkghhmjmfcnbnaaDoorStr
import Derived.BigQuiet
import Derived.Deep.QuietTactic
import Derived.Test.YtkghhmjmfcnbnaaDoorTurnL
import Derived.Test.YtkghhmjmfcnbnaaDoorDifL
import Derived.Test.YtkghhmjmfcnbnaaDoorFileH
import Derived.Test.YtkghhmjmfcnbnaaDoorTreS
import Derived.StillTailTactics
import Derived.Test.YtkghhmjmfcnbnaaDoorDrawTT
import Derived.Test.YtkghhmjmfcnbnaaDoorTurnI
import Derived.Test.YtkghhmjmfcnbnaaDoorDifI
import Derived.Test.YtkghhmjmfcnbnaaDoorDifS
import Derived.Test.YtkghhmjmfcnbnaaDoorPthOrderH
import Derived.Test.YtkghhmjmfcnbnaaDoorLaidW
namespace Go.Proofs.YtkghhmjmfcnbnaaDoor
open Go.ChangeShapes Go.WideShapes Go.ChangeAt Go.RowKit


theorem chTexts_calls (u v : Value) (zs : List ByteArray) (w : World) (hu : Sl 1 strC w u zs) (hv : Sl 1 strC w v zs) :
    Calls Tryd.prog 21 #[u, v] w fun e w' => e = .returned (.bool true) ∧ Below w.heap.size w w' := by
  obtain ⟨A, c, rfl, hc, hlc, hat⟩ := str_at hu
  obtain ⟨A', c', rfl, hc', hlc', hat'⟩ := str_at hv
  unfold maxLen at hc hc'
  go_enter Tryd.func21, Tryd.ntmps21
  go_wp2
  go_loopw [5] (fun i wr => ∃ k : Nat, k ≤ zs.length ∧ i = .int .i64 k ∧ Below w.heap.size w wr) (fun i _ => zs.length - (intOf i).toNat)
  case atStart => exact ⟨0, Nat.zero_le _, rfl, Below.refl _ _⟩
  case round =>
    obtain ⟨k, hk, rfl, hnx⟩ := hrel
    by_cases hlt : k < zs.length
    · obtain ⟨x, b, off, hz, rfl, hb, c0⟩ := hat k hlt
      obtain ⟨x', b', off', hz', rfl, hb', c0'⟩ := hat' k hlt
      rw [hz] at hz'
      simp only [Option.some.injEq] at hz'
      subst hz'
      have d0 := (hnx.cell (p := ⟨b, off + k, none⟩) hb).trans c0
      have d0' := (hnx.cell (p := ⟨b', off' + k, none⟩) hb').trans c0'
      clear hat hat' c0 c0' hz
      have h0 : (0 : Int) ≤ (k : Int) := Int.natCast_nonneg _
      have hl : (k : Int) < (zs.length : Int) := by omega
      go_wp2_with fail
      go_quiet (fail)
      have hnx2 := below_drewN hnx nq
      clear hnx
      go_wp2
      go_roundw
      case rel => exact ⟨k + 1, by omega, by go_num, hnx2⟩
      case measure => simp [intOf]; omega
    · go_wp2
      go_ret
      exact ⟨rfl, hnx⟩


theorem fget_cases (L : List TFile) (q : ByteArray) : fgetF L q = (ByteArray.empty, false) ∨ ∃ z ∈ L, z.path = q ∧ fgetF L q = (z.bytes, true) := by
  unfold fgetF
  cases e : L.find? (fun z => decide (z.path = q)) with
  | none => exact .inl rfl
  | some f =>
    have h1 := List.find?_some e
    exact .inr ⟨f, List.mem_of_find?_eq_some e, by simpa using h1, rfl⟩
theorem mem_fget {L : List TFile} (h : RiseT L) (x : TFile) : x ∈ L ↔ fgetF L x.path = (x.bytes, true) := by
  constructor
  · exact fget_mem h
  · intro hg
    rcases fget_cases L x.path with e | ⟨z, hz, hp, e⟩
    · rw [e] at hg; simp at hg
    · rw [e] at hg
      simp only [Prod.mk.injEq, and_true] at hg
      have : z = x := by cases z; cases x; simp only at hp hg; subst hp; subst hg; rfl
      rw [← this]; exact hz
theorem difB_mem {a b : List TFile} (ha : RiseT a) (hb : RiseT b) (p : ByteArray) : p ∈ difB a b ↔ fgetF a p ≠ fgetF b p := by
  unfold difB
  rw [setB_mem]
  unfold difL selL
  rw [List.mem_append, List.mem_map, List.mem_map]
  constructor
  · rintro (⟨z, hz, rfl⟩ | ⟨z, hz, rfl⟩)
    · rw [List.mem_filter] at hz
      rw [fget_mem ha hz.1]
      intro e
      have h2 := hz.2
      unfold difF at h2
      rw [← e] at h2
      simp at h2
    · rw [List.mem_filter] at hz
      rw [fget_mem hb hz.1]
      intro e
      have h2 := hz.2
      unfold newF at h2
      rw [e] at h2
      simp at h2
  · intro hne
    rcases fget_cases a p with e | ⟨z, hz, rfl, e⟩
    · rcases fget_cases b p with e2 | ⟨y, hy, rfl, e2⟩
      · exact absurd (e.trans e2.symm) hne
      · exact .inr ⟨y, List.mem_filter.2 ⟨hy, by unfold newF; rw [e]; rfl⟩, rfl⟩
    · refine .inl ⟨z, List.mem_filter.2 ⟨hz, ?_⟩, rfl⟩
      rcases fget_cases b z.path with e2 | ⟨y, hy, hp, e2⟩
      · exact difF_no e2
      · refine difF_ne e2 ?_
        intro hb2
        rw [e, e2, hb2] at hne
        exact hne rfl
theorem setB_same {L M : List ByteArray} (h : ∀ x, x ∈ L ↔ x ∈ M) : setB L = setB M := by
  unfold setB
  congr 1
  refine rise_eq (setF_rise _) (setF_rise _) fun x => ?_
  rw [setF_mem, setF_mem, List.mem_map, List.mem_map]
  constructor
  · rintro ⟨s, hs, rfl⟩; exact ⟨s, (h s).1 hs, rfl⟩
  · rintro ⟨s, hs, rfl⟩; exact ⟨s, (h s).2 hs, rfl⟩
theorem difB_turn {a b : List TFile} (ha : RiseT a) (hb : RiseT b) : difB b a = difB a b := by
  have h : ∀ x, x ∈ difL b a ↔ x ∈ difL a b := fun x => by
    have h1 := difB_mem hb ha x
    have h2 := difB_mem ha hb x
    unfold difB at h1 h2
    rw [setB_mem] at h1 h2
    rw [h1, h2]
    exact ⟨Ne.symm, Ne.symm⟩
  exact setB_same h
theorem difB_self {a : List TFile} (ha : RiseT a) : difB a a = [] := by
  rw [List.eq_nil_iff_forall_not_mem]
  intro x hx
  exact (difB_mem ha ha x).1 hx rfl
theorem difB_nodup (a b : List TFile) : (difB a b).Nodup := (setB_rise (difL a b)).imp fun hb e => by subst e; rw [bl_irr] at hb; cases hb
theorem difB_size {a b : List TFile} (ha : ∀ z ∈ a, z.path.size ≤ 11) (hb : ∀ z ∈ b, z.path.size ≤ 11) : ∀ x ∈ difB a b, x.size ≤ 11 := by
  intro x hx
  unfold difB at hx
  rw [setB_mem] at hx
  unfold difL selL at hx
  rw [List.mem_append, List.mem_map, List.mem_map] at hx
  rcases hx with ⟨z, hz, rfl⟩ | ⟨z, hz, rfl⟩
  · exact ha z (List.mem_filter.1 hz).1
  · exact hb z (List.mem_filter.1 hz).1

/-! ### the edits that turn the one into the other -/
/-- the edit of a path that makes it as b has it -/
def edE (b : List TFile) (p : ByteArray) : TEdit := ⟨p, (fgetF b p).1, !(fgetF b p).2⟩
/-- those of paths that b has, or has not -/
def selE (b : List TFile) (c : Bool) (L : List ByteArray) : List TEdit := (L.filter fun p => (fgetF b p).2 == c).map (edE b)
/-- does the pass lay down -/
def cP (k : Nat) : Bool := decide (k = 1)
/-- the edits ahead of a pass -/
def preE (b : List TFile) (L : List ByteArray) : Nat → List TEdit
  | 0 => []
  | k + 1 => preE b L k ++ selE b (cP k) L
section
variable {b : List TFile} {c : Bool} {L : List ByteArray} {x : ByteArray} {k : Nat}
theorem selE_keep (hz : L[k]? = some x) (h : (fgetF b x).2 = c) : selE b c (L.take (k + 1)) = selE b c (L.take k) ++ [edE b x] := by
  rw [take_one hz, selE, List.filter_append]
  simp [selE, h]
theorem selE_drop (hz : L[k]? = some x) (h : (fgetF b x).2 ≠ c) : selE b c (L.take (k + 1)) = selE b c (L.take k) := by
  rw [take_one hz, selE, List.filter_append]
  simp [selE, h]
theorem selE_zero : selE b c (L.take 0) = [] := rfl
theorem selE_all (h : ¬ k < L.length) : selE b c (L.take k) = selE b c L := by rw [List.take_of_length_le (by omega)]
theorem selE_len : (selE b c L).length ≤ L.length := by
  unfold selE
  rw [List.length_map]
  exact List.length_filter_le _ _
theorem selE_take : (selE b c (L.take k)).length ≤ k := Nat.le_trans selE_len (List.length_take_le _ _)
theorem preE_step : preE b L (k + 1) = preE b L k ++ selE b (cP k) L := rfl
theorem preE_len : (preE b L k).length ≤ k * L.length := by
  induction k with
  | zero => simp [preE]
  | succ k ih =>
    have := selE_len (b := b) (c := cP k) (L := L)
    rw [preE_step, List.length_append, Nat.add_mul]
    omega
theorem preE_two : preE b L 2 = selE b false L ++ selE b true L := by
  show ([] ++ selE b (cP 0) L) ++ selE b (cP 1) L = _
  rfl
theorem preE_full : (preE b L 2).length = L.length := by
  rw [preE_two, List.length_append]
  unfold selE
  rw [List.length_map, List.length_map]
  induction L with
  | nil => rfl
  | cons y r ih =>
    simp only [beq_false, beq_true] at ih ⊢
    cases h : (fgetF b y).2 <;> simp [h] <;> omega
end
theorem edE_fine {b : List TFile} {p : ByteArray} (hp : p.size ≤ 1048576) (hb : ∀ z ∈ b, z.bytes.size ≤ 1048576) : (edE b p).path.size ≤ 1048576 ∧ (edE b p).bytes.size ≤ 1048576 := by
  refine ⟨hp, ?_⟩
  show (fgetF b p).1.size ≤ 1048576
  rcases fget_cases b p with e | ⟨z, hz, _, e⟩
  · rw [e]; decide
  · rw [e]; exact hb z hz
theorem turnL_dels : ∀ (D : List TEdit) (L : List TFile), RiseT L → (∀ e ∈ D, e.gone = true ∧ toL e.bytes = [] ∧ ∃ z ∈ L, z.path = e.path) → D.Pairwise (fun e f => e.path ≠ f.path) → ∃ M, turnL L D = some M
  | [], L, _, _, _ => ⟨L, rfl⟩
  | e :: D, L, hr, h, hp => by
    rw [List.pairwise_cons] at hp
    obtain ⟨h1, h2, z, hz, h3⟩ := h e (by simp)
    have hf : ¬ findI L e.path < 0 := by
      rcases findI_spec L e.path with ⟨_, h5⟩ | ⟨j, f, _, h5, _⟩
      · exact absurd h3 (h5 z hz)
      · rw [h5]; omega
    obtain ⟨K, hK⟩ : ∃ K, turn1 L e = some K := by
      unfold turn1
      rw [if_pos h1, if_neg (by rintro (h5 | h5); exact hf h5; exact h5 h2)]
      exact ⟨_, rfl⟩
    obtain ⟨r1, r2, _, _⟩ := turn1_ok hr hK
    obtain ⟨M, hM⟩ := turnL_dels D K r1 (fun f hfm => by
      obtain ⟨g1, g2, y, hy, g3⟩ := h f (List.mem_cons_of_mem _ hfm)
      refine ⟨g1, g2, y, (r2 y).2 (.inl ⟨hy, ?_⟩), g3⟩
      rw [g3]; exact (hp.1 f hfm).symm) hp.2
    exact ⟨M, by unfold turnL; rw [hK]; exact hM⟩
theorem turnL_puts : ∀ (P : List TEdit) (L : List TFile), (∀ e ∈ P, e.gone = false) → ∃ M, turnL L P = some M
  | [], L, _ => ⟨L, rfl⟩
  | e :: P, L, h => by
    have h1 := h e (by simp)
    obtain ⟨K, hK⟩ : ∃ K, turn1 L e = some K := by
      unfold turn1
      rw [if_neg (by rw [h1]; simp)]
      split
      · exact ⟨_, rfl⟩
      · exact ⟨_, rfl⟩
    obtain ⟨M, hM⟩ := turnL_puts P K fun f hf => h f (List.mem_cons_of_mem _ hf)
    exact ⟨M, by unfold turnL; rw [hK]; exact hM⟩
theorem selE_mem {b : List TFile} {c : Bool} {L : List ByteArray} {e : TEdit} : e ∈ selE b c L ↔ ∃ p ∈ L, (fgetF b p).2 = c ∧ e = edE b p := by
  unfold selE
  rw [List.mem_map]
  constructor
  · rintro ⟨p, hp, rfl⟩
    rw [List.mem_filter] at hp
    exact ⟨p, hp.1, by simpa using hp.2, rfl⟩
  · rintro ⟨p, hp, h, rfl⟩
    exact ⟨p, List.mem_filter.2 ⟨hp, by simpa using h⟩, rfl⟩
theorem pre_apart {b : List TFile} {L : List ByteArray} (hn : L.Nodup) : (preE b L 2).Pairwise (fun e f => e.path ≠ f.path) := by
  have key : ∀ c, (selE b c L).Pairwise (fun e f => e.path ≠ f.path) := fun c => by
    unfold selE
    rw [List.pairwise_map]
    exact (hn.sublist List.filter_sublist)
  rw [preE_two, List.pairwise_append]
  refine ⟨key _, key _, fun e he f hf => ?_⟩
  obtain ⟨p, _, h1, rfl⟩ := selE_mem.1 he
  obtain ⟨q, _, h2, rfl⟩ := selE_mem.1 hf
  intro h
  have h' : p = q := h
  subst h'
  rw [h1] at h2; cases h2
theorem turn_dif {a b : List TFile} (ha : treB a = true) (hb : treB b = true) (h4 : (difB a b).length ≤ 4) : turnT a (preE b (difB a b) 2) = some b := by
  have hra := treB_rise ha
  have hrb := treB_rise hb
  have hap := pre_apart (b := b) (difB_nodup a b)
  have hmem : ∀ e, e ∈ preE b (difB a b) 2 ↔ ∃ p ∈ difB a b, e = edE b p := fun e => by
    rw [preE_two, List.mem_append, selE_mem, selE_mem]
    constructor
    · rintro (⟨p, h1, _, h2⟩ | ⟨p, h1, _, h2⟩)
      · exact ⟨p, h1, h2⟩
      · exact ⟨p, h1, h2⟩
    · rintro ⟨p, h1, h2⟩
      cases h : (fgetF b p).2
      · exact .inl ⟨p, h1, h, h2⟩
      · exact .inr ⟨p, h1, h, h2⟩
  obtain ⟨M, hM⟩ : ∃ M, turnL a (preE b (difB a b) 2) = some M := by
    rw [preE_two] at hap ⊢
    rw [List.pairwise_append] at hap
    obtain ⟨K, hK⟩ := turnL_dels (selE b false (difB a b)) a hra (fun e he => by
      obtain ⟨p, hp, hg, rfl⟩ := selE_mem.1 he
      have hpd := (difB_mem hra hrb p).1 hp
      have e2 : fgetF b p = (ByteArray.empty, false) := by
        rcases fget_cases b p with e | ⟨z, _, _, e⟩
        · exact e
        · rw [e] at hg; cases hg
      refine ⟨by show (!(fgetF b p).2) = true; rw [hg]; rfl, by show toL (fgetF b p).1 = []; rw [e2]; rfl, ?_⟩
      rcases fget_cases a p with e | ⟨z, hz, h1, _⟩
      · exact absurd (e.trans e2.symm) hpd
      · exact ⟨z, hz, h1⟩) hap.1
    obtain ⟨M, hM⟩ := turnL_puts (selE b true (difB a b)) K (fun e he => by
      obtain ⟨p, hp, hg, rfl⟩ := selE_mem.1 he
      show (!(fgetF b p).2) = false
      rw [hg]; rfl)
    exact ⟨M, by rw [turnL_app, hK]; exact hM⟩
  have hrM := (turnL_rise hra hM).1
  have hMb : M = b := by
    refine riseT_eq hrM hrb fun x => ?_
    by_cases hx : x.path ∈ difB a b
    · obtain ⟨k, hk, hke⟩ := List.mem_iff_getElem.1 ((hmem _).2 ⟨x.path, hx, rfl⟩)
      have hl := turnL_last (e := edE b x.path) (k := k) hra hM (by rw [List.getElem?_eq_getElem hk, hke]) (fun f hf => by
        rw [List.mem_drop_iff_getElem] at hf
        obtain ⟨j, hj, rfl⟩ := hf
        rw [List.pairwise_iff_getElem] at hap
        rw [← hke]
        exact (hap k (k + 1 + j) hk (by omega) (by omega)).symm)
      have hl2 : fgetF M x.path = fgetF b x.path := by
        have e : (edE b x.path).path = x.path := rfl
        rw [e] at hl
        rw [hl]
        show ((fgetF b x.path).1, !!(fgetF b x.path).2) = _
        rw [Bool.not_not]
      rw [mem_fget hrM, mem_fget hrb, hl2]
    · rw [turnL_keep hra hM x (fun e he => by
        obtain ⟨p, hp, rfl⟩ := (hmem e).1 he
        intro h
        have h' : p = x.path := h
        rw [h'] at hp
        exact hx hp)]
      have hxx : fgetF a x.path = fgetF b x.path := Classical.not_not.1 fun e => hx ((difB_mem hra hrb x.path).2 e)
      rw [mem_fget hra, mem_fget hrb, hxx]
  subst hMb
  exact turnT_yes ha (by rw [preE_full]; exact h4) hM hb


set_option maxRecDepth 100000 in
theorem chFiles_calls (u v : Value) (zs : List TFile) (w : World) (hu : Sl 2 fileC w u zs) (hv : Sl 2 fileC w v zs) :
    Calls Tryd.prog 19 #[u, v] w fun e w' => e = .returned (.bool true) ∧ Below w.heap.size w w' := by
  obtain ⟨A, c, rfl, hc, hlc, hat⟩ := file_z hu
  obtain ⟨A', c', rfl, hc', hlc', hat'⟩ := file_z hv
  unfold maxLen at hc hc'
  go_enter Tryd.func19, Tryd.ntmps19
  go_wp2
  go_loopw [5] (fun i wr => ∃ k : Nat, k ≤ zs.length ∧ i = .int .i64 k ∧ Below w.heap.size w wr) (fun i _ => zs.length - (intOf i).toNat)
  case atStart => exact ⟨0, Nat.zero_le _, rfl, Below.refl _ _⟩
  case round =>
    obtain ⟨k, hk, rfl, hnx⟩ := hrel
    by_cases hlt : k < zs.length
    · obtain ⟨x, b, off, hz, rfl, hb, c0, c1⟩ := hat k hlt
      obtain ⟨x', b', off', hz', rfl, hb', c0', c1'⟩ := hat' k hlt
      rw [hz] at hz'
      simp only [Option.some.injEq] at hz'
      subst hz'
      have d0 := (hnx.cell (p := ⟨b, off + k * 2, none⟩) hb).trans c0
      have d1 := (hnx.cell (p := ⟨b, off + k * 2 + 1, none⟩) hb).trans c1
      have d0' := (hnx.cell (p := ⟨b', off' + k * 2, none⟩) hb').trans c0'
      have d1' := (hnx.cell (p := ⟨b', off' + k * 2 + 1, none⟩) hb').trans c1'
      clear hat hat' c0 c0' c1 c1' hz
      have h0 : (0 : Int) ≤ (k : Int) := Int.natCast_nonneg _
      have hl : (k : Int) < (zs.length : Int) := by omega
      go_wp2_with fail
      go_quiet (fail)
      have hnx2 := below_drewN hnx nq
      clear hnx
      go_wp2
      go_roundw
      case rel => exact ⟨k + 1, by omega, by go_num, hnx2⟩
      case measure => simp [intOf]; omega
    · go_wp2
      go_ret
      exact ⟨rfl, hnx⟩


theorem edits_fine {b : List TFile} {L : List ByteArray} (hL : ∀ x ∈ L, x.size ≤ 11) (hb : trShort b) : editFine (preE b L 2) := by
  intro e he
  rw [preE_two, List.mem_append, selE_mem, selE_mem] at he
  obtain ⟨p, hp, rfl⟩ : ∃ p ∈ L, e = edE b p := by
    rcases he with ⟨p, h1, _, h2⟩ | ⟨p, h1, _, h2⟩
    · exact ⟨p, h1, h2⟩
    · exact ⟨p, h1, h2⟩
  have h1 := edE_fine (b := b) (p := p) (by have := hL p hp; omega) (fun z hz => by have := (hb z hz).2; omega)
  unfold maxLen
  omega
set_option maxRecDepth 100000 in
set_option maxHeartbeats 40000000 in
theorem treDifL_calls (W : World) (hsh : W.ShapedOpen Tryd.prog) (v : Value) (bs : List UInt8) (hs : Sl 1 byteC W v bs) :
    Calls Tryd.prog 5 #[v] W fun e w' => e = .returned (.bool true) ∧ Below W.heap.size W w' := by
  obtain ⟨i0, hi, hz0, hz1, hz2⟩ := info_parts Tryd.infoEdit
  have hm0 := maxOk_of hsh
  clear hsh
  obtain ⟨A, c, rfl, hlc, hc, -⟩ := id hs
  unfold maxLen at hc
  by_cases hL : (1048576 : Int) < (bs.length : Nat)
  · go_enter Tryd.func5, Tryd.ntmps5
    go_wp2
    go_ret
    exact ⟨rfl, below0 W⟩
  · go_enter Tryd.func5, Tryd.ntmps5
    go_wp2_with fail
    refine (drawTreDiffers_calls _ bs _ hs).mono ?_
    rintro e w1 ⟨ua, ub, a, b, hla, hsa, hlb, hsb, rfl, sa, sb, b1⟩
    have m1 := Lib.hid (hm0.below b1)
    have hfa := trShort_fine hsa
    have hfb := trShort_fine hsb
    obtain ⟨Aa, ca, rfl, hca, hlca, -⟩ := file_z sa
    obtain ⟨Ab, cb, rfl, hcb, hlcb, -⟩ := file_z sb
    unfold maxLen at hca hcb
    go_wp2_with fail
    refine (treDif_impl _ _ a b _ sa sb (by omega) (by omega)).mono ?_
    rintro e w2 ⟨n, rfl, on, b2⟩
    have B2 := below_up b1 b2
    have m2 := Lib.hid (m1.out.below b2)
    have sa2 := sa.below b2
    have sb2 := sb.below b2
    go_wp2_with fail
    refine (treDif_spec _ _ a b _ sa2 sb2 (by omega) (by omega)).mono ?_
    rintro e w3 ⟨y3, rfl, o3, b3⟩
    have B3 := below_up B2 b3
    have m3 := Lib.hid (m2.out.below b3)
    have sa3 := sa2.below b3
    have sb3 := sb2.below b3
    have sn3 := (on.below b3).sl strC_len
    go_wp2_with fail
    refine (chTexts_calls n y3 _ _ sn3 (o3.sl strC_len)).mono ?_
    rintro e w4 ⟨rfl, b4⟩
    have B4 := below_up B3 b4
    have m4 := Lib.hid (m3.out.below b4)
    have sa4 := sa3.below b4
    have sb4 := sb3.below b4
    have sn4 := sn3.below b4
    clear b1 b2 b3 b4 B2 B3 m1 m2 m3 sa sa2 sa3 sb sb2 sb3 on sn3 o3 hs hm0
    go_wp2_with fail
    refine (treDif_impl _ _ b a _ sb4 sa4 (by omega) (by omega)).mono ?_
    rintro e w5 ⟨y5, rfl, o5, b5⟩
    have B5 := below_up B4 b5
    have m5 := Lib.hid (m4.out.below b5)
    have sa5 := sa4.below b5
    have sb5 := sb4.below b5
    have sn5 := sn4.below b5
    go_wp2_with fail
    refine (treDif_spec _ _ b a _ sb5 sa5 (by omega) (by omega)).mono ?_
    rintro e w6 ⟨y6, rfl, o6, b6⟩
    have B6 := below_up B5 b6
    have m6 := Lib.hid (m5.out.below b6)
    have sa6 := sa5.below b6
    have sb6 := sb5.below b6
    have sn6 := sn5.below b6
    have so6 := (o5.below b6).sl strC_len
    go_wp2_with fail
    refine (chTexts_calls y5 y6 _ _ so6 (o6.sl strC_len)).mono ?_
    rintro e w7 ⟨rfl, b7⟩
    have B7 := below_up B6 b7
    have m7 := Lib.hid (m6.out.below b7)
    have sa7 := sa6.below b7
    have sb7 := sb6.below b7
    have sn7 := sn6.below b7
    clear b5 b6 b7 B4 B5 B6 m4 m5 m6 sa4 sa5 sa6 sb4 sb5 sb6 sn4 sn5 sn6 so6 o5 o6
    go_wp2_with fail
    refine (tre_spec _ a _ sa7 hfa).mono ?_
    rintro e w8 ⟨rfl, b8⟩
    have B8 := below_up B7 b8
    have m8 := Lib.hid (m7.out.below b8)
    have sa8 := sa7.below b8
    have sb8 := sb7.below b8
    have sn8 := sn7.below b8
    clear b8 B7 m7 sa7 sb7 sn7
    cases hta : treB a
    · go_wp2_with fail
      refine (tre_impl _ a _ m8.out sa8 hfa).mono ?_
      rintro e w9 ⟨rfl, b9⟩
      have B9 := below_up B8 b9
      have sa9 := sa8.below b9
      clear b9 B8 sa8 sb8 sn8
      go_wp2_with fail
      refine (tre_spec _ a _ sa9 hfa).mono ?_
      rintro e w10 ⟨rfl, b10⟩
      have B10 := below_up B9 b10
      rw [hta]
      go_wp2_with fail
      refine (chOk_calls _).mono ?_
      rintro e w11 ⟨rfl, b11⟩
      go_wp2
      go_ret
      exact ⟨rfl, below_up B10 b11⟩
    · go_wp2_with fail
      refine (tre_spec _ b _ sb8 hfb).mono ?_
      rintro e w9 ⟨rfl, b9⟩
      have B9 := below_up B8 b9
      have m9 := Lib.hid (m8.out.below b9)
      have sa9 := sa8.below b9
      have sb9 := sb8.below b9
      have sn9 := sn8.below b9
      clear b9 B8 m8 sa8 sb8 sn8
      cases htb : treB b
      · go_wp2_with fail
        refine (tre_impl _ a _ m9.out sa9 hfa).mono ?_
        rintro e w10 ⟨rfl, b10⟩
        have B10 := below_up B9 b10
        have sa10 := sa9.below b10
        clear b10 B9 sa9 sb9 sn9
        go_wp2_with fail
        refine (tre_spec _ a _ sa10 hfa).mono ?_
        rintro e w11 ⟨rfl, b11⟩
        have B11 := below_up B10 b11
        rw [hta]
        go_wp2_with fail
        refine (chOk_calls _).mono ?_
        rintro e w12 ⟨rfl, b12⟩
        go_wp2
        go_ret
        exact ⟨rfl, below_up B11 b12⟩
      · have hnl := difB_len a b
        obtain ⟨An, cn, rfl, hcn, hlcn, hatn⟩ := str_at sn9
        unfold maxLen at hcn
        have HAn := Lib.hid hatn
        have SA := Lib.hid sa9
        have SB := Lib.hid sb9
        have SN := Lib.hid sn9
        have HTA := Lib.hid hta
        have HTB := Lib.hid htb
        have HSB := Lib.hid hsb
        clear hatn sa9 sb9 sn9 hta htb
        have HN := Lib.hid (difB_size (a := a) (b := b) (fun z hz => (hsa z hz).1) (fun z hz => (hsb z hz).1))
        go_wp2
        go_loopw [6, 7] (fun v p wr => ∃ k : Nat, k ≤ 2 ∧ p = .int .i64 k ∧ Own 3 editC 49 w9.heap.size wr v (preE b (difB a b) k) ∧ Below w9.heap.size w9 wr) (fun _ p _ => 2 - (intOf p).toNat)
        case atStart => exact ⟨0, by omega, rfl, World.ownsRow_lit w9 #[] 0 (Nat.le_refl _) (by simp [maxLen]) rfl, al (below0 _) _⟩
        case round =>
          obtain ⟨k, hk, rfl, hown, hnx⟩ := hrel
          obtain ⟨wo, rfl⟩ : ∃ wo : World, wo = wr := ⟨_, rfl⟩
          by_cases hlt : k < 2
          · have hki : (k : Int) < 2 := by omega
            have hpl := preE_len (b := b) (L := difB a b) (k := k)
            have hpl2 : (preE b (difB a b) k).length ≤ 264 := by
              refine Nat.le_trans hpl (Nat.le_trans (Nat.mul_le_mul (show k ≤ 2 by omega) (show (difB a b).length ≤ 132 by omega)) (by decide))
            have hc1 : ((k : Int) == 1) = cP k := by unfold cP; rcases (show k = 0 ∨ k = 1 by omega) with rfl | rfl <;> rfl
            go_wp2
            go_loopw [6, 8] (fun v i wr => ∃ j : Nat, j ≤ (difB a b).length ∧ i = .int .i64 j ∧ Own 3 editC 49 w9.heap.size wr v (preE b (difB a b) k ++ selE b (cP k) ((difB a b).take j)) ∧ Below w9.heap.size w9 wr) (fun _ i _ => (difB a b).length - (intOf i).toNat)
            case atStart => exact ⟨0, Nat.zero_le _, rfl, by rw [selE_zero, List.append_nil]; exact hown, hnx⟩
            case round =>
              obtain ⟨j, hj, rfl, hown2, hnx2⟩ := hrel
              by_cases hltj : j < (difB a b).length
              · obtain ⟨x, bn, off, hz, rfl, hbn, c0⟩ := HAn.out j hltj
                have d0 := (hnx2.cell (p := ⟨bn, off + j, none⟩) hbn).trans c0
                have hli : (j : Int) < ((difB a b).length : Int) := by omega
                have HF := Lib.hid (treFind_impl_calls _ b x _ (SB.out.below hnx2) (by omega))
                have HZ := Lib.hid hz
                have C0 := Lib.hid c0
                clear c0 hz
                go_wp2_with fail
                refine HF.out.mono ?_
                rintro e w10 ⟨rfl, b10⟩
                have hnx3 := below_up hnx2 b10
                have own3 := Own.below hown2 b10
                have g0 := (hnx3.cell (p := ⟨bn, off + j, none⟩) hbn).trans C0.out
                clear b10 d0 hown2
                cases heq : ((fgetF b x).2 == cP k)
                · have HD := Lib.hid (selE_drop (b := b) (c := cP k) HZ.out (by simpa using heq))
                  go_wp2
                  go_roundw
                  case rel => exact ⟨j + 1, by omega, by go_num, by rw [HD.out]; exact own3, hnx3⟩
                  case measure => simp [intOf]; omega
                · have HD := Lib.hid (selE_keep (b := b) (c := cP k) HZ.out (by simpa using heq))
                  have hsl := selE_take (b := b) (c := cP k) (L := difB a b) (k := j)
                  have hll : (preE b (difB a b) k ++ selE b (cP k) ((difB a b).take j)).length ≤ 400 := by rw [List.length_append]; omega
                  have own4 := own3
                  unfold Own at own4
                  have hz9 := hnx3.size
                  go_wp2_with (at_builtin; refine wpList_append_own _ rfl _ _ 47 rfl w9.heap.size 49 i0 _ 3 40 Tryd.underlying47 hi hz0 hz1 hz2 rfl (by decide) _ _ _ rfl (own4.alloc _) ⟨w10.heap.size, 0, none⟩ 1 1 [.string x, .string (fgetF b x).1, .bool (!(fgetF b x).2)] rfl rfl (news_new _ #[.string x, .string (fgetF b x).1, .bool (!(fgetF b x).2)] _ _ (by simp)) (by intro u hu; simp at hu; rcases hu with rfl | rfl | rfl <;> rfl) (by unfold maxLen; omega) (by omega) (by simp; omega) ?_; intro v5 w5 own5 hg5 _)
                  have b5 := app_step hnx3 own4 (al (below0 _) _) hg5
                  clear hg5 own3 own4
                  go_wp2
                  go_roundw
                  case rel => exact ⟨j + 1, by omega, by go_num, by rw [HD.out, ← List.append_assoc]; unfold Own; simpa [editC, edE, Nat.add_assoc] using own5, b5⟩
                  case measure => simp [intOf]; omega
              · have hli : ¬ (j : Int) < ((difB a b).length : Int) := by omega
                have HD := Lib.hid (selE_all (b := b) (c := cP k) hltj)
                go_wp2
                go_roundw
                case rel => exact ⟨k + 1, by omega, by go_num, by rw [preE_step, ← HD.out]; exact hown2, hnx2⟩
                case measure => simp [intOf]; omega
          · have hki : ¬ (k : Int) < 2 := by omega
            obtain rfl : k = 2 := by omega
            have hpf := Lib.hid (preE_full (b := b) (L := difB a b))
            have k1 : (((preE b (difB a b) 2).length : Int) == ((difB a b).length : Int)) = true := by rw [hpf.out]; simp
            have k2 : (!(((preE b (difB a b) 2).length : Int) == ((difB a b).length : Int))) = false := by rw [hpf.out]; simp
            have k3 : (((preE b (difB a b) 2).length : Int) != ((difB a b).length : Int)) = false := by rw [hpf.out]; simp
            have k4 : ((preE b (difB a b) 2).length == (difB a b).length) = true := by rw [hpf.out]; simp
            have k5 : decide (((preE b (difB a b) 2).length : Int) = ((difB a b).length : Int)) = true := by rw [hpf.out]; simp
            have so := Own.sl editC_len hown
            obtain ⟨Ae, ce, rfl, hce, hlce, -⟩ := edit_z so
            unfold maxLen at hce
            have m10 := Lib.hid (m9.out.below hnx)
            have sa := SA.out.below hnx
            have sb := SB.out.below hnx
            have sn := SN.out.below hnx
            have B10 := below_up B9 hnx
            have HD := treDif_impl _ _ b a _ sb sa (by omega) (by omega)
            rw [difB_turn (treB_rise HTA.out) (treB_rise HTB.out)] at HD
            have HD := Lib.hid HD
            clear hown hnx SA SB SN HAn m9 B9
            go_wp2_with fail
            refine HD.out.mono ?_
            rintro e w11 ⟨v11, rfl, o11, b11⟩
            have B11 := below_up B10 b11
            have m11 := Lib.hid (m10.out.below b11)
            have sa11 := sa.below b11
            have sb11 := sb.below b11
            have sn11 := sn.below b11
            have so11 := so.below b11
            have HD := Lib.hid (chTexts_calls v11 _ (difB a b) _ (o11.sl strC_len) sn11)
            clear o11 b11 B10 m10 sa sb sn so
            go_wp2_with fail
            refine HD.out.mono ?_
            rintro e w12 ⟨rfl, b12⟩
            have B12 := below_up B11 b12
            have m12 := Lib.hid (m11.out.below b12)
            have sa12 := sa11.below b12
            have sb12 := sb11.below b12
            have so12 := so11.below b12
            have HD := treDif_impl _ _ a a _ sa12 sa12 (by omega) (by omega)
            rw [difB_self (treB_rise HTA.out)] at HD
            have HD := Lib.hid HD
            clear b12 B11 m11 sa11 sb11 sn11 so11
            go_wp2_with fail
            refine HD.out.mono ?_
            rintro e w13 ⟨v13, rfl, o13, b13⟩
            have B13 := below_up B12 b13
            have m13 := Lib.hid (m12.out.below b13)
            have sa13 := sa12.below b13
            have sb13 := sb12.below b13
            have so13 := so12.below b13
            obtain ⟨A13, c13, rfl, -, -, -⟩ := str_at (o13.sl strC_len)
            clear b13 B12 m12 sa12 sb12 so12 o13 HD
            by_cases h4 : (4 : Int) < ((preE b (difB a b) 2).length : Int)
            · go_wp2
              go_ret
              exact ⟨rfl, B13⟩
            · have HT := treTurn_impl _ _ a (preE b (difB a b) 2) _ m13.out sa13 so13 hfa (edits_fine HN.out HSB.out)
              unfold TreTurnPost at HT
              rw [turn_dif HTA.out HTB.out (by have := hpf.out; omega)] at HT
              have HT := Lib.hid HT
              go_wp2_with fail
              refine HT.out.mono ?_
              rintro e w14 ⟨v14, rfl, o14, b14⟩
              have B14 := below_up B13 b14
              have hb14 : ((some b : Option (List TFile)).getD []) = b := rfl
              rw [hb14] at o14
              have HC := Lib.hid (chFiles_calls v14 _ b _ (o14.sl fileC_len) (sb13.below b14))
              clear o14 b14 HT hb14
              go_wp2_with fail
              refine HC.out.mono ?_
              rintro e w15 ⟨rfl, b15⟩
              go_wp2
              go_ret
              exact ⟨rfl, below_up B14 b15⟩
set_option maxRecDepth 100000 in
theorem treDifL_lifted (os : Os) (started : os.Started) (H : Type) (enc : TypeId × Value → H) (F : Stop.Interp) :
    ReturnsInHanded {} Tryd.checked os 5 .any ((OpenSpec.ofChange Rows.fnTreDiffersSpec).preRow enc Tryd.prog Tryd.f5 Rows.fnTreDiffersRow.domain false Rows.fnTreDiffersRow.laid) (((OpenSpec.ofChange Rows.fnTreDiffersSpec).at F).post enc Tryd.prog Tryd.f5 false true false false) := by
  obtain ⟨places, hx⟩ := (show ∃ places, DataW.whole enc Tryd.prog ((laidWorld os).forCall (fun _ _ => 0) ⟨#[], #[.slice none 0 0], []⟩).memory Tryd.f5.params.toList Rows.fnTreDiffersSpec.vars false (#[.slice none 0 0] : Array Value).toList 8 = some ([.nil], [], places) from ⟨[], by kernel_rfl⟩)
  have hmet : laidMet Tryd.prog Rows.fnTreDiffersRow.laid ((laidWorld os).forCall (fun _ _ => 0) ⟨#[], #[.slice none 0 0], []⟩).memory := laidMet_of_run' 8 (by kernel_rfl) (by kernel_rfl)
  refine returnsInHanded_of_row (C := Tryd.checked) (s := OpenSpec.ofChange Rows.fnTreDiffersSpec) Tryd.own started (by kernel_rfl) Tryd.func5
    (witness_row_at (enc := enc) (C := Tryd.checked) false (laidWorld os) #[.slice none 0 0] rfl (by kernel_rfl) (by kernel_rfl) (by kernel_rfl)
      (OpenSpec.preRow_of_cond 8 hx (by kernel_rfl) (fun k hk => by cases hk) (by kernel_rfl) hmet)) ?_
  intro W base args ds gs before hval0 hW _ _ _ _ hsh _
  show Calls Tryd.prog 5 args W fun e W2 => ∃ v, e = .returned v ∧ Rows.fnTreDiffersSpec.post enc Tryd.prog Tryd.f5 false true false false W args v W2
  have hval : ∀ (j : Nat) t v, Tryd.f5.params[j]? = some t → args[j]? = some v → Value.okWide Tryd.prog W .any base t v := hval0
  have hW1 : DataW.Whole enc Tryd.prog Tryd.f5.params.toList Rows.fnTreDiffersSpec.vars false W args.toList ds gs before := hW
  have hW2 := hW1
  obtain ⟨p, q, hA0, hV, rfl, _, _⟩ := hW1
  have hA : DataW.TrodAll enc Tryd.prog W 0 (fun _ => true) true Tryd.f5.params.toList args.toList ds p := hA0
  rw [Tryd.params5] at hA hval
  obtain ⟨v0, d0, rfl, rfl, h0⟩ := trodAll_one hA
  obtain ⟨rfl, rfl⟩ := trodVars_none hV
  clear hA0 hval0 hW
  simp only [List.append_nil] at hW2
  have lt0 : ∀ x ∈ p, x.block < W.heap.size := fun x hx => hW2.lt x (by simp [hx])
  have k0 := fun W2 (hb : Below W.heap.size W W2) => Below.trod Tryd.laidOut (by kernel_rfl) (of_decide_eq_true (by kernel_rfl)) h0 hb lt0
  obtain ⟨x0, wf0⟩ := open_bytes (hval 0 33 v0 rfl rfl) h0 lt0
  refine (treDifL_calls W hsh v0 x0 wf0).mono fun e W2 ⟨he, hb⟩ => ?_
  subst he
  exact ⟨_, rfl, _, _, _, [], _, [], hW2, trodAll_mk1 (shut_bool Tryd.underlying4 true), trodAll_mk1 (k0 W2 hb), rfl, hb.frame _, fun h => by cases h⟩

theorem treDifL_said : Rows.FnTreDiffersSaid :=
  OpenClaim.holds_of_cond 5 Tryd.f5 rfl rfl rfl rfl rfl rfl rfl ⟨rfl, rfl, rfl, rfl, rfl⟩ rfl rfl rfl rfl rfl (by kernel_rfl) Tryd.func5 (by kernel_rfl)
    (of_decide_eq_true (by kernel_rfl)) (by unfold Func.isWrapper; first | (rw [if_pos (by decide +kernel)]; kernel_rfl) | (rw [if_neg (by decide +kernel)]; exact ⟨rfl, rfl⟩))
    (fun os started H enc _ F => by rw [OpenClaim.pre_eq_preRow]; exact treDifL_lifted os started H enc F)
theorem treDifL_plain (f : FuncId) (fn : Func) (hf : Tryd.pinned.checked.prog.funcNamed "loop.example/chartulary/laws.FnTreDiffers" = some f) (hfn : Tryd.pinned.checked.prog.funcs[f]? = some fn) :
    false = Tryd.pinned.checked.prog.looks [] ∧ ∀ (j : Nat) t, fn.params[j]? = some t → Tryd.pinned.checked.prog.wantsStandIn t = false := by
  obtain rfl : f = 5 := Option.some.inj ((show Tryd.prog.funcNamed "loop.example/chartulary/laws.FnTreDiffers" = some 5 by kernel_rfl).symm.trans hf) |>.symm
  obtain rfl : fn = Tryd.f5 := (Option.some.inj (Tryd.func5.symm.trans hfn)).symm
  refine ⟨by kernel_rfl, fun j t ht => ?_⟩
  rw [Tryd.params5] at ht
  have hm := Array.mem_of_getElem? ht
  simp only [List.mem_toArray, List.mem_cons, List.not_mem_nil, or_false] at hm
  subst hm
  exact (show Tryd.prog.wantsStandIn 33 = false by kernel_rfl)

theorem treDifL_holds : Rows.FnTreDiffersCardSaid :=
  Claim7.holds_tied_plain_at .later [] _ _ _ _ treDifL_said (fun _ h => by cases h) (by kernel_rfl) (fun _ h => by cases h) fnTreDiffers_row_tie rfl ⟨rfl, rfl⟩ (by kernel_rfl) rfl treDifL_plain (by kernel_rfl)
end Go.Proofs.YtkghhmjmfcnbnaaDoor
