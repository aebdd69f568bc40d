/- A region that draws its order, walked once by an invariant: what each operation that has come up has left in its temporary, and what holds of the world. No program stands in it. -/
import Derived.Test.YtfiempmdmkoagaaDoorMem
import Derived.Orders
import Derived.RegionTactic
namespace Go.Proofs.YtfiempmdmkoagaaDoor
open Go.RowKit

/-- f, with v at i -/
def upd {α : Type} (f : Nat → α) (i : Nat) (v : α) : Nat → α := fun j => if j = i then v else f j
theorem upd_same {α : Type} (f : Nat → α) (i : Nat) (v : α) : upd f i v i = v := if_pos rfl
theorem upd_other {α : Type} (f : Nat → α) {i j : Nat} (v : α) (h : j ≠ i) : upd f i v j = f j := if_neg h
/-- how many of the first n have not come up -/
def rest (L : Nat → Bool) : Nat → Nat
  | 0 => 0
  | n + 1 => (if L n = true then 0 else 1) + rest L n
theorem rest_zero {L : Nat → Bool} : ∀ {n : Nat}, rest L n = 0 → ∀ j, j < n → L j = true
  | 0, _, _, hj => by omega
  | n + 1, h, j, hj => by
    unfold rest at h
    by_cases h1 : L n = true
    · rw [if_pos h1] at h
      by_cases h2 : j = n
      · rw [h2]; exact h1
      · have h3 : rest L n = 0 := by omega
        exact rest_zero h3 j (by omega)
    · rw [if_neg h1] at h; omega
theorem rest_upd {L : Nat → Bool} {i : Nat} (hi : L i = false) : ∀ {n : Nat}, (i < n → rest (upd L i true) n + 1 = rest L n) ∧ (n ≤ i → rest (upd L i true) n = rest L n)
  | 0 => ⟨fun h => by omega, fun _ => rfl⟩
  | n + 1 => by
    have ih := rest_upd hi (n := n)
    unfold rest
    by_cases h : n = i
    · subst h
      rw [upd_same]
      refine ⟨fun _ => ?_, fun h => by omega⟩
      rw [ih.2 (Nat.le_refl _), hi]
      simp [Nat.add_comm]
    · rw [upd_other L true h]
      exact ⟨fun h2 => by have := ih.1 (by omega); omega, fun h2 => by rw [ih.2 (by omega)]⟩
theorem rest_le (L : Nat → Bool) : ∀ n, rest L n ≤ n
  | 0 => Nat.le_refl _
  | n + 1 => by have := rest_le L n; unfold rest; split <;> omega

section
variable {P : Program} {l : List Oper} {Q : Exit → Act → World → Prop} {J : (Nat → Bool) → Act → World → Prop}

/-- the operations wait only for earlier ones -/
def backward (l : List Oper) : Bool := (List.range l.length).all fun j => match l[j]? with | some o => o.after.toList.all fun e => !Region.binds .any e || decide (e.on < j) | none => true
/-- what operation i must keep -/
def InvStep (P : Program) (l : List Oper) (Q : Exit → Act → World → Prop) (J : (Nat → Bool) → Act → World → Prop) (i : Nat) (o : Oper) : Prop :=
  ∀ (L : Nat → Bool) (a : Act) (w : World), L i = false → (∀ e ∈ o.after.toList, Region.binds .any e = true → L e.on = true) → J L a w →
    ∀ K : Act → World → Prop, (∀ a w, J (upd L i true) a w → K a w) →
      if Region.wanted o (yielded l.toArray a.tmps) = true then Oper.wp P o a w K Q else K (a.put o.dst undef) w
/-- from the i-th on, every operation keeps it -/
def InvAll (P : Program) (l : List Oper) (Q : Exit → Act → World → Prop) (J : (Nat → Bool) → Act → World → Prop) : Nat → List Oper → Prop
  | _, [] => True
  | i, o :: r => InvStep P l Q J i o ∧ InvAll P l Q J (i + 1) r
theorem InvAll.get : ∀ {r : List Oper} {i j : Nat} {o : Oper}, InvAll P l Q J i r → r[j]? = some o → InvStep P l Q J (i + j) o
  | [], _, _, _, _, h => by simp at h
  | _ :: _, i, 0, _, h, hj => by simp only [List.getElem?_cons_zero, Option.some.injEq] at hj; subst hj; exact h.1
  | _ :: r, i, j + 1, _, h, hj => by
    rw [List.getElem?_cons_succ] at hj
    have := InvAll.get h.2 hj
    rwa [show i + (j + 1) = i + 1 + j by omega]

theorem inv_any (hb : backward l = true) (hs : InvAll P l Q J 0 l) (he : ∀ L a w, (∀ j, j < l.length → L j = true) → J L a w → Q .normal a w) :
    ∀ (fuel : Nat) (listed : Array Bool) (a : Act) (w : World), listed.size = l.length → rest (fun j => listed.getD j true) l.length ≤ fuel → J (fun j => listed.getD j true) a w →
      wpAny P .any l.toArray Q fuel listed a w := by
  have hnil : ∀ (listed : Array Bool), listed.size = l.length → Region.ready .any l.toArray listed = [] → ∀ j, j < l.length → listed.getD j true = true := by
    intro listed hsz hr j
    induction j using Nat.strongRecOn with
    | _ j ih =>
      intro hj
      cases hL : listed.getD j true with
      | true => rfl
      | false =>
        exfalso
        have hm : j ∈ Region.ready .any l.toArray listed := by
          rw [mem_ready]
          refine ⟨hL, l[j], by simp [hj], fun e hee hbd => ?_⟩
          have h1 := List.all_eq_true.1 hb j (List.mem_range.2 hj)
          rw [List.getElem?_eq_getElem hj] at h1
          have h2 : e.on < j := by have := List.all_eq_true.1 h1 e (by simpa using hee); rw [hbd] at this; simpa using this
          have h3 := ih e.on h2 (by omega)
          have h4 : e.on < listed.size := by omega
          simp only [Array.getD_eq_getD_getElem?, Array.getElem?_eq_getElem h4, Option.getD_some] at h3 ⊢
          exact h3
        rw [hr] at hm
        cases hm
  intro fuel
  induction fuel with
  | zero =>
    intro listed a w hsz hf hJ
    have hall := rest_zero (Nat.le_zero.1 hf)
    refine ⟨?_, he _ a w hall hJ⟩
    cases hr : Region.ready .any l.toArray listed with
    | nil => rfl
    | cons i r =>
      exfalso
      have hm : i ∈ Region.ready .any l.toArray listed := by rw [hr]; simp
      obtain ⟨h0, o, ho, _⟩ := mem_ready.1 hm
      have hi : i < l.length := by have := (Array.getElem?_eq_some_iff.1 ho).1; simpa using this
      have h1 := hall i hi
      rw [h0] at h1
      cases h1
  | succ fuel ih =>
    intro listed a w hsz hf hJ
    refine ⟨fun hr => he _ a w (hnil listed hsz hr) hJ, fun i hi => ?_⟩
    obtain ⟨h0, o, ho, hall⟩ := mem_ready.1 hi
    have hlt : i < l.length := by have := (Array.getElem?_eq_some_iff.1 ho).1; simpa using this
    have hs1 := InvAll.get hs (j := i) (o := o) (by simpa using ho)
    rw [Nat.zero_add] at hs1
    have hfun : (fun j => (listed.setIfInBounds i true).getD j true) = upd (fun j => listed.getD j true) i true := by
      funext j
      by_cases hj : j = i
      · subst hj
        rw [upd_same]
        simp [hsz, hlt]
      · rw [upd_other _ _ hj, getD_set_ne true (Ne.symm hj)]
    refine wpOp_step ho fun K hK => hs1 (fun j => listed.getD j true) a w h0 (fun e hee hbb => ?_) hJ K fun a' w' hJ' => hK _ _ (ih _ a' w' (by simpa using hsz) ?_ ?_)
    · have h3 := hall e (by simpa using hee) hbb
      by_cases h4 : e.on < listed.size
      · simp only [Array.getD_eq_getD_getElem?, Array.getElem?_eq_getElem h4, Option.getD_some] at h3 ⊢
        exact h3
      · simp [Array.getD_eq_getD_getElem?, Array.getElem?_eq_none (Nat.le_of_not_lt h4)]
    · rw [hfun]
      have := (rest_upd (L := fun j => listed.getD j true) h0 (n := l.length)).1 hlt
      omega
    · rw [hfun]; exact hJ'
/-- a drawn region by an invariant -/
theorem wp_region_inv {id : Nat} {a : Act} {w : World} (J : (Nat → Bool) → Act → World → Prop) (hm : P.follows .mixedOrders = true) (hb : backward l = true)
    (h0 : ∀ L, (∀ j, j < l.length → L j = false) → J L a w.drew) (hs : InvAll P l Q J 0 l) (he : ∀ L a w, (∀ j, j < l.length → L j = true) → J L a w → Q .normal a w) :
    (Code.region id l.toArray true).wp P Q a w := by
  refine wp_region_any hm (inv_any hb hs he _ _ a _ (by simp) ?_ (h0 _ fun j hj => ?_))
  · simpa using rest_le _ _
  · simp [hj]
end
end Go.Proofs.YtfiempmdmkoagaaDoor
