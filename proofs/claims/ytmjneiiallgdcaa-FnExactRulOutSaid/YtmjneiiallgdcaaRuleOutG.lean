/- impl.RulOut: cloneRules, slices.IndexFunc, slices.DeleteFunc. -/
import Derived.Test.YtmjneiiallgdcaaRuleOutF
namespace Go.Proofs.Ytmjneiiallgdcaa
open Go.RowKit

theorem sl_news {α : Type} {sz : Nat} {C : α → List Value} {w : World} {ad : Addr} {n c : Nat} {zs : List α} (hl : ∀ a, (C a).length = sz) (hz : 0 < sz) (h : Sl sz C w (.slice (some ad) n c) zs) :
    ∀ j u, (zs.flatMap C)[j]? = some u → w.cell? (ad.add j) = some u := by
  intro j u hj
  obtain ⟨A', c', e, h1, h2, h3⟩ := h
  simp only [Value.slice.injEq] at e
  obtain ⟨rfl, rfl, rfl⟩ := e
  have hjl : j < zs.length * sz := by rw [← flat_len hl zs]; exact (List.getElem?_eq_some_iff.1 hj).1
  have hk : j / sz < zs.length := Nat.div_lt_of_lt_mul (by rwa [Nat.mul_comm])
  have hr : j % sz < sz := Nat.mod_lt _ hz
  have hsum : j / sz * sz + j % sz = j := by rw [Nat.mul_comm]; exact Nat.div_add_mod j sz
  have hu' : (C zs[j / sz])[j % sz]? = some ((C zs[j / sz])[j % sz]'(by rw [hl]; exact hr)) := List.getElem?_eq_getElem _
  have hf := flat_get hl (List.getElem?_eq_getElem hk) hu'
  rw [hsum, hj] at hf
  obtain ⟨b, off, e2, hb, hat⟩ := h3 _ _ (List.getElem?_eq_getElem hk)
  simp only [Option.some.injEq] at e2
  subst e2
  rw [Go.WideShapes.add_plain, ← hsum, ← Nat.add_assoc, hf]
  exact hat _ _ hu'
theorem one_rule (zs : List TRule) : ∀ u ∈ zs.flatMap ruleC, u.oneCell' = true := by
  intro u hu
  obtain ⟨z, _, h⟩ := List.mem_flatMap.1 hu
  simp [ruleC] at h
  rcases h with rfl | rfl | rfl | rfl <;> rfl

set_option maxRecDepth 100000 in
theorem cloneRules_calls (u : Value) (zs : List TRule) (w : World) (hu : Sl 4 ruleC w u zs) (hn : zs.length ≤ 1048576) :
    Calls Try.prog 14 #[u] w (RetOwn 4 ruleC 31 zs w) := by
  obtain ⟨i0, hi, hz0, hz1, hz2⟩ := info_parts Try.infoRule
  obtain ⟨A, c, rfl, hc, hlc, hat⟩ := rule_z hu
  unfold maxLen at hc
  cases A with
  | none =>
    have : zs = [] := by
      cases zs with
      | nil => rfl
      | cons z zs => obtain ⟨_, _, _, _, h, _⟩ := hat 0 (by simp); cases h
    subst this
    clear hu hat
    go_enter Try.func14, Try.ntmps14
    go_wp2
    go_ret
    exact ⟨_, rfl, World.ownsRow_nil _ _ _ _, below0 w⟩
  | some ad =>
    have hnew := sl_news ruleC_len (by omega) hu
    clear hat hu
    go_enter Try.func14, Try.ntmps14
    go_wp2_with (at_builtin; refine wpList_append_own _ rfl _ _ 27 rfl w.heap.size 31 i0 _ 4 48 Try.underlying27 hi hz0 hz1 hz2 rfl (by decide) _ 0 [] rfl (World.ownsRow_nil _ _ _ _) ad zs.length c (zs.flatMap ruleC) rfl (flat_len ruleC_len zs) hnew (one_rule zs) (by unfold maxLen; omega) (by omega) (by simp) ?_; intro v1 w1 hown1 hgrow1 _)
    go_ret
    have hg2 : w.grownBy w1 none := hgrow1
    refine ⟨_, rfl, by unfold Own; simpa using hown1, below_of_grown hg2⟩

/-- the place of the first rule that is r, -1 for none -/
def ruleI (zs : List TRule) (r : TRule) : Int := match zs.findIdx? (fun z => ruleEq z r) with | some i => (i : Int) | none => -1
theorem ruleI_hit {zs : List TRule} {r z : TRule} {k : Nat} (hz : zs[k]? = some z) (h : ruleEq z r = true) (hall : ∀ z ∈ zs.take k, ruleEq z r = false) : ruleI zs r = k := by
  obtain ⟨hlt, hv⟩ := List.getElem?_eq_some_iff.1 hz
  have : zs.findIdx? (fun z => ruleEq z r) = some k := by
    rw [List.findIdx?_eq_some_iff_getElem]
    refine ⟨hlt, by rw [hv]; exact h, fun j hj => ?_⟩
    have := hall (zs[j]'(by omega)) (List.mem_take_iff_getElem.2 ⟨j, by omega, rfl⟩)
    simp [this]
  simp [ruleI, this]
theorem ruleI_none {zs : List TRule} {r : TRule} (hall : ∀ z ∈ zs, ruleEq z r = false) : ruleI zs r = -1 := by
  have : zs.findIdx? (fun z => ruleEq z r) = none := by
    rw [List.findIdx?_eq_none_iff]
    exact hall
  simp [ruleI, this]
/-- no rule of the first k is r -/
def NoRule (zs : List TRule) (r : TRule) (k : Nat) : Prop := ∀ z ∈ zs.take k, ruleEq z r = false
theorem noRule_step {zs : List TRule} {r z : TRule} {k : Nat} (hz : zs[k]? = some z) (h : ruleEq z r = false) (hall : NoRule zs r k) : NoRule zs r (k + 1) := by
  unfold NoRule
  rw [take_one hz]
  intro y hy
  rcases List.mem_append.1 hy with h1 | h1
  · exact hall y h1
  · simp at h1; subst h1; exact h
/-- the cells of the rule r in block g -/
def RBox (w : World) (g : Nat) (r : TRule) : Prop := g < w.heap.size ∧ w.cell? ⟨g, 0, none⟩ = some (.int .i64 r.user) ∧ w.cell? ⟨g, 1, none⟩ = some (.string r.ref) ∧ w.cell? ⟨g, 2, none⟩ = some (.string r.path) ∧ w.cell? ⟨g, 3, none⟩ = some (.bool r.write)
theorem RBox.below {w w' : World} {g : Nat} {r : TRule} (h : RBox w g r) (hb : Below w.heap.size w w') : RBox w' g r :=
  ⟨Nat.lt_of_lt_of_le h.1 hb.size, (hb.cell (p := ⟨g, 0, none⟩) h.1).trans h.2.1, (hb.cell (p := ⟨g, 1, none⟩) h.1).trans h.2.2.1, (hb.cell (p := ⟨g, 2, none⟩) h.1).trans h.2.2.2.1, (hb.cell (p := ⟨g, 3, none⟩) h.1).trans h.2.2.2.2⟩
theorem out1_box (z r : TRule) (g : Nat) (w : World) (h : RBox w g r) :
    Calls Try.prog 15 #[.agg #[.int .i64 z.user, .string z.ref, .string z.path, .bool z.write], .pointer (some ⟨g, 0, none⟩)] w fun e w' => e = .returned (.bool (ruleEq z r)) ∧ Below w.heap.size w w' :=
  out1_calls z r g w h.2.1 h.2.2.1 h.2.2.2.1 h.2.2.2.2 h.1

set_option maxRecDepth 100000 in
theorem ruleIndex_calls (u : Value) (zs : List TRule) (r : TRule) (g : Nat) (w : World) (hg : RBox w g r) (hu : Sl 4 ruleC w u zs) (_hn : zs.length ≤ 1048576) :
    Calls Try.prog 18 #[u, .func (.func 15) #[] #[.pointer (some ⟨g, 0, none⟩)]] w fun e w' => e = .returned (.int .i64 (ruleI zs r)) ∧ Below w.heap.size w w' := by
  obtain ⟨A, c, rfl, hc, hlc, hat⟩ := rule_z hu
  unfold maxLen at hc
  go_enter Try.func18, Try.ntmps18
  go_wp2
  go_loopw [8] (fun i wr => ∃ k : Nat, k ≤ zs.length ∧ i = .int .i64 k ∧ NoRule zs r k ∧ Below w.heap.size w wr) (fun i _ => zs.length - (intOf i).toNat)
  case atStart => exact ⟨0, Nat.zero_le _, rfl, fun z hz => by simp at hz, below0 w⟩
  case round =>
    obtain ⟨k, hk, rfl, hall, hnx⟩ := hrel
    by_cases hlt : k < zs.length
    · obtain ⟨z, b, off, hz, rfl, hb, c0, c1, c2, c3⟩ := hat k hlt
      have d0 := (hnx.cell (p := ⟨b, off + k * 4, none⟩) hb).trans c0
      have d1 := (hnx.cell (p := ⟨b, off + k * 4 + 1, none⟩) hb).trans c1
      have d2 := (hnx.cell (p := ⟨b, off + k * 4 + 2, none⟩) hb).trans c2
      have d3 := (hnx.cell (p := ⟨b, off + k * 4 + 3, none⟩) hb).trans c3
      have dg := Lib.hid (hg.below hnx)
      by_cases hp : ruleEq z r = true
      · have HF := Lib.hid (ruleI_hit hz hp hall)
        clear hat hz c0 c1 c2 c3 hall
        go_wp2_with fail
        refine (out1_box z r g _ dg.out).mono ?_
        rintro e w1 ⟨rfl, hb1⟩
        rw [hp]
        go_wp2
        go_ret
        exact ⟨ret_i HF.out.symm, below_up hnx hb1⟩
      · have hp' : ruleEq z r = false := by simpa using hp
        have HF : Hid (NoRule zs r (k + 1)) := noRule_step hz hp' hall
        clear hat hz c0 c1 c2 c3 hall
        go_wp2_with fail
        refine (out1_box z r g _ dg.out).mono ?_
        rintro e w1 ⟨rfl, hb1⟩
        rw [hp']
        go_wp2
        go_roundw
        case rel => exact ⟨k + 1, by omega, by go_num, HF.out, below_up hnx hb1⟩
        case measure => simp [intOf]; omega
    · have HF : Hid (ruleI zs r = -1) := ruleI_none (by unfold NoRule at hall; rwa [List.take_of_length_le (by omega)] at hall)
      clear hall
      go_wp2
      go_ret
      exact ⟨ret_i HF.out.symm, hnx⟩

end Go.Proofs.Ytmjneiiallgdcaa
