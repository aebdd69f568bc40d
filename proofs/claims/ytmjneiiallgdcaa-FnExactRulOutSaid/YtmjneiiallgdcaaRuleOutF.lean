/- impl.RulOut and spec.RulOut: the rules that are not the rule. -/
import Derived.Test.YtmjneiiallgdcaaRuleMark
import Derived.Test.YtmjneiiallgdcaaStr
namespace Go.Proofs.Ytmjneiiallgdcaa
open Go.RowKit

/-- are two rules one -/
def ruleEq (a b : TRule) : Bool := (a.user == b.user) && (a.ref.toList == b.ref.toList) && (a.path.toList == b.path.toList) && (a.write == b.write)
theorem ruleEq_iff (a b : TRule) : ruleEq a b = true ↔ a = b := by
  obtain ⟨a1, a2, a3, a4⟩ := a
  obtain ⟨b1, b2, b3, b4⟩ := b
  simp only [ruleEq, Bool.and_eq_true, beq_iff_eq, TRule.mk.injEq]
  constructor
  · rintro ⟨⟨⟨rfl, h2⟩, h3⟩, rfl⟩
    exact ⟨rfl, bytes_ext h2, bytes_ext h3, rfl⟩
  · rintro ⟨rfl, rfl, rfl, rfl⟩
    exact ⟨⟨⟨rfl, rfl⟩, rfl⟩, rfl⟩
theorem rule_ne {a b : TRule} (h : ¬ ruleEq a b = true) : (¬ a.user = b.user) ∨ (a.user = b.user ∧ ¬ a.ref.toList = b.ref.toList) ∨ (a.user = b.user ∧ a.ref.toList = b.ref.toList ∧ ¬ a.path.toList = b.path.toList) ∨
    (a.user = b.user ∧ a.ref.toList = b.ref.toList ∧ a.path.toList = b.path.toList ∧ ¬ a.write = b.write) := by
  simp only [ruleEq, Bool.and_eq_true, beq_iff_eq] at h
  by_cases h0 : a.user = b.user
  · by_cases h1 : a.ref.toList = b.ref.toList
    · by_cases h2 : a.path.toList = b.path.toList
      · exact .inr (.inr (.inr ⟨h0, h1, h2, fun h3 => h ⟨⟨⟨h0, h1⟩, h2⟩, h3⟩⟩))
      · exact .inr (.inr (.inl ⟨h0, h1, h2⟩))
    · exact .inr (.inl ⟨h0, h1⟩)
  · exact .inl h0
/-- the rules that are not r -/
def ruleNot (r : TRule) (zs : List TRule) : List TRule := zs.filter fun z => !ruleEq z r
theorem ruleNot_len (r : TRule) (zs : List TRule) : (ruleNot r zs).length ≤ zs.length := List.length_filter_le _ _
theorem ruleNot_keep {r z : TRule} {zs : List TRule} {k : Nat} (hz : zs[k]? = some z) (h : ruleEq z r = false) : ruleNot r (zs.take (k + 1)) = ruleNot r (zs.take k) ++ [z] := by
  rw [take_one hz, ruleNot, List.filter_append]
  simp [ruleNot, h]
theorem ruleNot_drop {r z : TRule} {zs : List TRule} {k : Nat} (hz : zs[k]? = some z) (h : ruleEq z r = true) : ruleNot r (zs.take (k + 1)) = ruleNot r (zs.take k) := by
  rw [take_one hz, ruleNot, List.filter_append]
  simp [ruleNot, h]
theorem ruleNot_take (r : TRule) (zs : List TRule) (k : Nat) : (ruleNot r (zs.take k)).length ≤ k := Nat.le_trans (ruleNot_len _ _) (List.length_take_le _ _)

theorem rule_z {w : World} {v : Value} {zs : List TRule} (h : Sl 4 ruleC w v zs) : ∃ A c, v = .slice A zs.length c ∧ c ≤ maxLen ∧ zs.length ≤ c ∧
    ∀ k, k < zs.length → ∃ (z : TRule) (b off : Nat), zs[k]? = some z ∧ A = some ⟨b, off, none⟩ ∧ b < w.heap.size ∧ w.cell? ⟨b, off + k * 4, none⟩ = some (.int .i64 z.user) ∧ w.cell? ⟨b, off + k * 4 + 1, none⟩ = some (.string z.ref) ∧ w.cell? ⟨b, off + k * 4 + 2, none⟩ = some (.string z.path) ∧ w.cell? ⟨b, off + k * 4 + 3, none⟩ = some (.bool z.write) := by
  obtain ⟨A, c, h1, h2, h3, h4⟩ := rule_at h
  exact ⟨A, c, h1, h2, h3, fun k hk => by obtain ⟨u, r, p, f, b, off, h⟩ := h4 k hk; exact ⟨⟨u, r, p, f⟩, b, off, h⟩⟩
theorem own_form {w : World} {base n sz : Nat} {e : TypeId} {v : Value} {xs : List Value} (h : w.ownsRow base e sz v n xs) : ∃ A c, v = .slice A n c ∧ n ≤ c ∧ c ≤ maxLen := by
  rcases h.2 with ⟨rfl, rfl⟩ | ⟨g, c, _, rfl, _, _, h1, h2, _⟩
  · exact ⟨none, 0, rfl, Nat.le_refl _, by simp [maxLen]⟩
  · exact ⟨_, c, rfl, h1, h2⟩
/-- a rule as one value -/
def ruleV (r : TRule) : Value := .agg #[.int .i64 r.user, .string r.ref, .string r.path, .bool r.write]
set_option maxRecDepth 100000 in
theorem out1_calls (z r : TRule) (g : Nat) (w : World) (h0 : w.cell? ⟨g, 0, none⟩ = some (.int .i64 r.user)) (h1 : w.cell? ⟨g, 1, none⟩ = some (.string r.ref)) (h2 : w.cell? ⟨g, 2, none⟩ = some (.string r.path)) (h3 : w.cell? ⟨g, 3, none⟩ = some (.bool r.write)) (hlt : g < w.heap.size) :
    Calls Try.prog 15 #[.agg #[.int .i64 z.user, .string z.ref, .string z.path, .bool z.write], .pointer (some ⟨g, 0, none⟩)] w fun e w' => e = .returned (.bool (ruleEq z r)) ∧ Below w.heap.size w w' := by
  go_enter Try.func15, Try.ntmps15
  go_wp2
  all_goals (
    go_ret
    exact ⟨by simp [ruleEq, *], al (below0 w) _⟩)
set_option maxRecDepth 100000 in
set_option maxHeartbeats 400000 in
theorem rulOut_spec (u : Value) (zs : List TRule) (r : TRule) (w : World) (hu : Sl 4 ruleC w u zs) (hn : zs.length ≤ 1048576) :
    Calls Try.prog 6 #[u, .agg #[.int .i64 r.user, .string r.ref, .string r.path, .bool r.write]] w (fun e w' => ∃ v, e = .returned (.tuple #[v, .bool (decide ((ruleNot r zs).length < zs.length))]) ∧ Own 4 ruleC 31 w.heap.size w' v (ruleNot r zs) ∧ Below w.heap.size w w') := by
  obtain ⟨i0, hi, hz0, hz1, hz2⟩ := info_parts Try.infoRule
  obtain ⟨A, c, rfl, hc, hlc, hat⟩ := rule_z hu
  unfold maxLen at hc
  go_enter Try.func6, Try.ntmps6
  go_wp2
  have hsz : (w.alloc (.cells #[.int .i64 r.user, .string r.ref, .string r.path, .bool r.write] 31)).heap.size = w.heap.size + 1 := by simp
  have hB0 := al (below0 w) (.cells #[.int .i64 r.user, .string r.ref, .string r.path, .bool r.write] 31)
  have hbx := heap_alloc_new w (.cells #[.int .i64 r.user, .string r.ref, .string r.path, .bool r.write] 31)
  generalize hW : w.alloc (.cells #[.int .i64 r.user, .string r.ref, .string r.path, .bool r.write] 31) = W0 at hsz hB0 hbx ⊢
  clear hW
  have r0 : W0.cell? ⟨w.heap.size, 0, none⟩ = some (.int .i64 r.user) := by rw [cell_of_row W0 _ 0 _ _ _ hbx]; rfl
  have r1 : W0.cell? ⟨w.heap.size, 1, none⟩ = some (.string r.ref) := by rw [cell_of_row W0 _ 1 _ _ _ hbx]; rfl
  have r2 : W0.cell? ⟨w.heap.size, 2, none⟩ = some (.string r.path) := by rw [cell_of_row W0 _ 2 _ _ _ hbx]; rfl
  have r3 : W0.cell? ⟨w.heap.size, 3, none⟩ = some (.bool r.write) := by rw [cell_of_row W0 _ 3 _ _ _ hbx]; rfl
  go_loopw [6, 7] (fun v i wr => ∃ k : Nat, k ≤ zs.length ∧ i = .int .i64 k ∧ wr.ownsRow W0.heap.size 31 4 v (ruleNot r (zs.take k)).length ((ruleNot r (zs.take k)).flatMap ruleC) ∧ Below W0.heap.size W0 wr) (fun _ i _ => zs.length - (intOf i).toNat)
  case atStart => exact ⟨0, Nat.zero_le _, rfl, (by rw [← hsz]; exact World.ownsRow_lit W0 #[] 0 (Nat.le_refl _) (by simp [maxLen]) rfl), al (below0 W0) _⟩
  case round =>
    obtain ⟨k, hk, rfl, hown, hnx⟩ := hrel
    have hpl := ruleNot_take r zs k
    by_cases hlt : k < zs.length
    · obtain ⟨z, b, off, hz, rfl, hb, c0, c1, c2, c3⟩ := hat k hlt
      have hb0 : b < W0.heap.size := by omega
      have hbw : b < wr.heap.size := Nat.lt_of_lt_of_le hb0 hnx.size
      have d0 := (hnx.cell (p := ⟨b, off + k * 4, none⟩) hb0).trans ((hB0.cell (p := ⟨b, off + k * 4, none⟩) hb).trans c0)
      have d1 := (hnx.cell (p := ⟨b, off + k * 4 + 1, none⟩) hb0).trans ((hB0.cell (p := ⟨b, off + k * 4 + 1, none⟩) hb).trans c1)
      have d2 := (hnx.cell (p := ⟨b, off + k * 4 + 2, none⟩) hb0).trans ((hB0.cell (p := ⟨b, off + k * 4 + 2, none⟩) hb).trans c2)
      have d3 := (hnx.cell (p := ⟨b, off + k * 4 + 3, none⟩) hb0).trans ((hB0.cell (p := ⟨b, off + k * 4 + 3, none⟩) hb).trans c3)
      have s0 := (hnx.cell (p := ⟨w.heap.size, 0, none⟩) (by simp; omega)).trans r0
      have s1 := (hnx.cell (p := ⟨w.heap.size, 1, none⟩) (by simp; omega)).trans r1
      have s2 := (hnx.cell (p := ⟨w.heap.size, 2, none⟩) (by simp; omega)).trans r2
      have s3 := (hnx.cell (p := ⟨w.heap.size, 3, none⟩) (by simp; omega)).trans r3
      by_cases hx : ruleEq z r = true
      · have HZ := Lib.hid (ruleNot_drop hz hx)
        obtain rfl := (ruleEq_iff _ _).1 hx
        clear hat c0 c1 c2 c3 r0 r1 r2 r3 hz hx
        go_wp2_with fail
        go_quiet (fail)
        go_wp2
        go_roundw
        case rel => exact ⟨k + 1, by omega, by go_num, by rw [HZ.out]; exact hown.kept (grown_of_below (below_drewN (Below.refl _ _) nq) none) (Classical.em _), below_drewN hnx nq⟩
        case measure => simp [intOf]; omega
      · have HZ := Lib.hid (ruleNot_keep hz (by simpa using hx))
        have hnn := rule_ne hx
        clear hat c0 c1 c2 c3 r0 r1 r2 r3 hz hx
        rcases hnn with h | ⟨h0, h⟩ | ⟨h0, h1, h⟩ | ⟨h0, h1, h2, h⟩
        all_goals (
          go_wp2_with fail
          go_quiet (fail)
          try clear h
          try clear h2
          try clear h1
          try clear h0
          have hb2 := below_drewN (Below.refl wr.heap.size wr) nq
          have t0 := (hb2.cell (p := ⟨b, off + k * 4, none⟩) hbw).trans d0
          have t1 := (hb2.cell (p := ⟨b, off + k * 4 + 1, none⟩) hbw).trans d1
          have t2 := (hb2.cell (p := ⟨b, off + k * 4 + 2, none⟩) hbw).trans d2
          have t3 := (hb2.cell (p := ⟨b, off + k * 4 + 3, none⟩) hbw).trans d3
          have hown2 := hown.kept (grown_of_below hb2 none) (Classical.em _)
          have hnx2 := below_drewN hnx nq
          generalize wr.drewN nq = wd at hb2 t0 t1 t2 t3 hown2 hnx2 ⊢
          clear d0 d1 d2 d3 s0 s1 s2 s3 hown hnx hb2
          go_wp2_with (at_builtin; refine wpList_append_own _ rfl _ _ 27 rfl W0.heap.size 31 i0 _ 4 48 Try.underlying27 hi hz0 hz1 hz2 rfl (by decide) _ _ _ rfl (hown2.alloc _) ⟨wd.heap.size, 0, none⟩ 1 1 [.int .i64 z.user, .string z.ref, .string z.path, .bool z.write] rfl rfl (news_new _ #[.int .i64 z.user, .string z.ref, .string z.path, .bool z.write] _ _ (by simp)) (by intro u hu; simp at hu; rcases hu with rfl | rfl | rfl | rfl <;> rfl) (by unfold maxLen; omega) (by omega) (by have := hnx2.size; simp; omega) ?_; intro v1 w1 hown1 hgrow1 _)
          have hb1 := app_step hnx2 hown2 (al (below0 _) _) hgrow1
          clear hgrow1 hnx2 hown2
          go_roundw
          case rel => exact ⟨k + 1, by omega, by go_num, by rw [HZ.out]; simpa [ruleC] using hown1, hb1⟩
          case measure => simp [intOf]; omega)
    · rw [List.take_of_length_le (by omega)] at hown
      obtain ⟨A', c', rfl, hc1, hc2⟩ := own_form hown
      have hq := ruleNot_len r zs
      unfold maxLen at hc2
      clear hat
      go_wp2
      go_ret2
      exact ⟨_, rfl, Own.mono hown (by omega), below_up hB0 hnx⟩
end Go.Proofs.Ytmjneiiallgdcaa
