/- Rules: ok, for a user and a ref, lists of them. Plain functions; no walk stands in it. -/
import Derived.Test.YtfiempmdmkoagaaDoorRuleOutF
import Derived.Test.YtfiempmdmkoagaaDoorPth
namespace Go.Proofs.YtfiempmdmkoagaaDoor
open Go.RowKit

/-- a ref: none, or a name -/
def refB (s : ByteArray) : Bool := (toL s).isEmpty || namS s
/-- a rule that is ok -/
def rokB (r : TRule) : Bool := (decide (0 ≤ r.user) && decide (r.user ≤ 4)) && refB r.ref && pthB r.path
/-- a rule that is for a user and a ref -/
def forB (r : TRule) (u : Int) (ref : ByteArray) : Bool := rokB r && (r.user == 0 || r.user == u) && ((toL r.ref).isEmpty || toL r.ref == toL ref)
def mayR (r : TRule) (u : Int) (ref path : ByteArray) (write : Bool) : Bool := forB r u ref && undB r.path path && (r.write || !write)
def mayB (zs : List TRule) (u : Int) (ref path : ByteArray) (write : Bool) : Bool := zs.any fun r => mayR r u ref path write
def seesB (zs : List TRule) (u : Int) (ref : ByteArray) : Bool := zs.any fun r => forB r u ref
/-- rule r is among these -/
def hasB (zs : List TRule) (r : TRule) : Bool := zs.any fun z => ruleEq z r
theorem ruleEq_comm (a b : TRule) : ruleEq a b = ruleEq b a := by
  rw [Bool.eq_iff_iff, ruleEq_iff, ruleEq_iff]; exact eq_comm
/-- the first k rules are ok, and no two of them the same -/
def goodR (zs : List TRule) (k : Nat) : Bool := (List.range k).all fun i => match zs[i]? with | some z => rokB z && !hasB (zs.take i) z | none => false
theorem goodR_step {zs : List TRule} {z : TRule} {k : Nat} (hz : zs[k]? = some z) : goodR zs (k + 1) = (goodR zs k && (rokB z && !hasB (zs.take k) z)) := by
  simp [goodR, List.range_succ, hz]
theorem goodR_less {zs : List TRule} {k n : Nat} (h : k ≤ n) (hg : goodR zs k = false) : goodR zs n = false := by
  rw [Bool.eq_false_iff]
  intro ht
  rw [Bool.eq_false_iff] at hg
  refine hg ?_
  unfold goodR at ht ⊢
  rw [List.all_eq_true] at ht ⊢
  intro i hi
  exact ht i (by simp only [List.mem_range] at hi ⊢; omega)
def listB (zs : List TRule) : Bool := decide (zs.length ≤ 6) && goodR zs zs.length
theorem listB_bad {zs : List TRule} {z : TRule} {k : Nat} (hz : zs[k]? = some z) (h : (rokB z && !hasB (zs.take k) z) = false) : listB zs = false := by
  have hk := (List.getElem?_eq_some_iff.1 hz).1
  have : goodR zs zs.length = false := goodR_less (k := k + 1) (by omega) (by rw [goodR_step hz, h, Bool.and_false])
  rw [listB, this, Bool.and_false]
theorem listB_end {zs : List TRule} (h : goodR zs zs.length = true) : listB zs = decide (zs.length ≤ 6) := by rw [listB, h, Bool.and_true]
/-- is r put behind the rules -/
def putB (zs : List TRule) (r : TRule) : Bool := listB zs && rokB r && !(zs.length == 6) && !hasB zs r
def putL (zs : List TRule) (r : TRule) : List TRule := if putB zs r then zs ++ [r] else zs
theorem listB_len {zs : List TRule} (h : listB zs = true) : zs.length ≤ 6 := by
  simp [listB] at h; exact h.1
theorem putL_len (zs : List TRule) (r : TRule) : (putL zs r).length ≤ zs.length + 1 := by
  unfold putL; split <;> simp
theorem refB_eq (s : ByteArray) : refB s = (s.toList.isEmpty || namS s) := by rw [isEmpty_toL]; rfl

/-! ### the first k of a list -/
theorem any_hit {α : Type} {p : α → Bool} {zs : List α} {z : α} {k : Nat} (hz : zs[k]? = some z) (h : p z = true) : zs.any p = true :=
  List.any_eq_true.2 ⟨z, List.mem_of_getElem? hz, h⟩
/-- none of the first k -/
def NoneTo {α : Type} (p : α → Bool) (zs : List α) (k : Nat) : Prop := ∀ z ∈ zs.take k, p z = false
theorem noneTo_zero {α : Type} (p : α → Bool) (zs : List α) : NoneTo p zs 0 := fun z hz => by simp at hz
theorem noneTo_step {α : Type} {p : α → Bool} {zs : List α} {z : α} {k : Nat} (hz : zs[k]? = some z) (h : p z = false) (hn : NoneTo p zs k) : NoneTo p zs (k + 1) := by
  unfold NoneTo
  rw [take_one hz]
  intro y hy
  rcases List.mem_append.1 hy with h1 | h1
  · exact hn y h1
  · simp at h1; subst h1; exact h
theorem noneTo_end {α : Type} {p : α → Bool} {zs : List α} {k : Nat} (hk : ¬ k < zs.length) (hn : NoneTo p zs k) : zs.any p = false := by
  unfold NoneTo at hn
  rw [List.take_of_length_le (by omega)] at hn
  rw [List.any_eq_false]
  intro z hz
  rw [hn z hz]; simp
/-- the place of the first that is so, -1 for none -/
def idxB {α : Type} (p : α → Bool) (zs : List α) : Int := match zs.findIdx? p with | some i => (i : Int) | none => -1
theorem idxB_hit {α : Type} {p : α → Bool} {zs : List α} {z : α} {k : Nat} (hz : zs[k]? = some z) (h : p z = true) (hall : NoneTo p zs k) : idxB p zs = k := by
  obtain ⟨hlt, hv⟩ := List.getElem?_eq_some_iff.1 hz
  have : zs.findIdx? p = some k := by
    rw [List.findIdx?_eq_some_iff_getElem]
    refine ⟨hlt, by rw [hv]; exact h, fun j hj => ?_⟩
    have := hall (zs[j]'(by omega)) (List.mem_take_iff_getElem.2 ⟨j, by omega, rfl⟩)
    simp [this]
  simp [idxB, this]
theorem idxB_none {α : Type} {p : α → Bool} {zs : List α} {k : Nat} (hk : ¬ k < zs.length) (hall : NoneTo p zs k) : idxB p zs = -1 := by
  unfold NoneTo at hall
  rw [List.take_of_length_le (by omega)] at hall
  have : zs.findIdx? p = none := by rw [List.findIdx?_eq_none_iff]; exact hall
  simp [idxB, this]
theorem idxB_any {α : Type} (p : α → Bool) (zs : List α) : decide (0 ≤ idxB p zs) = zs.any p := by
  unfold idxB
  cases h : zs.findIdx? p with
  | none =>
    rw [List.findIdx?_eq_none_iff] at h
    have : zs.any p = false := by rw [List.any_eq_false]; intro z hz; rw [h z hz]; simp
    rw [this]; rfl
  | some i =>
    obtain ⟨hi, hp, _⟩ := List.findIdx?_eq_some_iff_getElem.1 h
    have : zs.any p = true := List.any_eq_true.2 ⟨_, List.getElem_mem hi, hp⟩
    rw [this]; simp

/-! ### what the laws say -/
theorem may_sees {zs : List TRule} {u : Int} {ref path : ByteArray} {write : Bool} (h : mayB zs u ref path write = true) : seesB zs u ref = true := by
  obtain ⟨r, hr, h⟩ := List.any_eq_true.1 h
  refine List.any_eq_true.2 ⟨r, hr, ?_⟩
  simp only [mayR, Bool.and_eq_true] at h
  exact h.1.1
theorem may_read {zs : List TRule} {u : Int} {ref path : ByteArray} {write : Bool} (h : mayB zs u ref path write = true) : mayB zs u ref path false = true := by
  obtain ⟨r, hr, h⟩ := List.any_eq_true.1 h
  refine List.any_eq_true.2 ⟨r, hr, ?_⟩
  simp only [mayR, Bool.and_eq_true] at h ⊢
  exact ⟨h.1, by simp⟩
theorem may_under {zs : List TRule} {u : Int} {ref path q : ByteArray} {write : Bool} (h : mayB zs u ref path write = true) (k : undB path q = true) : mayB zs u ref q write = true := by
  obtain ⟨r, hr, h⟩ := List.any_eq_true.1 h
  refine List.any_eq_true.2 ⟨r, hr, ?_⟩
  simp only [mayR, Bool.and_eq_true] at h ⊢
  exact ⟨⟨h.1.1, undL_trans h.1.2 k⟩, h.2⟩
end Go.Proofs.YtfiempmdmkoagaaDoor
