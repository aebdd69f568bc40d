/- impl.RulOut and spec.RulOut: the rules that are not the rule. -/
import Derived.Test.YtfiempmdmkoagaaDoorRuleMark
import Derived.Test.YtfiempmdmkoagaaDoorStr
namespace Go.Proofs.YtfiempmdmkoagaaDoor
open Go.RowKit

/-- are two rules one -/
def ruleEq (a b : TRule) : Bool := (a.user == b.user) && (a.ref.toList == b.ref.toList) && (a.path.toList == b.path.toList) && (a.write == b.write)
theorem ruleEq_iff (a b : TRule) : ruleEq a b = true ↔ a = b := by
  obtain ⟨a1, a2, a3, a4⟩ := a
  obtain ⟨b1, b2, b3, b4⟩ := b
  simp only [ruleEq, Bool.and_eq_true, beq_iff_eq, TRule.mk.injEq]
  constructor
  · rintro ⟨⟨⟨rfl, h2⟩, h3⟩, rfl⟩
    exact ⟨rfl, bytes_ext h2, bytes_ext h3, rfl⟩
  · rintro ⟨rfl, rfl, rfl, rfl⟩
    exact ⟨⟨⟨rfl, rfl⟩, rfl⟩, rfl⟩
theorem rule_ne {a b : TRule} (h : ¬ ruleEq a b = true) : (¬ a.user = b.user) ∨ (a.user = b.user ∧ ¬ a.ref.toList = b.ref.toList) ∨ (a.user = b.user ∧ a.ref.toList = b.ref.toList ∧ ¬ a.path.toList = b.path.toList) ∨
    (a.user = b.user ∧ a.ref.toList = b.ref.toList ∧ a.path.toList = b.path.toList ∧ ¬ a.write = b.write) := by
  simp only [ruleEq, Bool.and_eq_true, beq_iff_eq] at h
  by_cases h0 : a.user = b.user
  · by_cases h1 : a.ref.toList = b.ref.toList
    · by_cases h2 : a.path.toList = b.path.toList
      · exact .inr (.inr (.inr ⟨h0, h1, h2, fun h3 => h ⟨⟨⟨h0, h1⟩, h2⟩, h3⟩⟩))
      · exact .inr (.inr (.inl ⟨h0, h1, h2⟩))
    · exact .inr (.inl ⟨h0, h1⟩)
  · exact .inl h0
/-- the rules that are not r -/
def ruleNot (r : TRule) (zs : List TRule) : List TRule := zs.filter fun z => !ruleEq z r
theorem ruleNot_len (r : TRule) (zs : List TRule) : (ruleNot r zs).length ≤ zs.length := List.length_filter_le _ _
theorem ruleNot_keep {r z : TRule} {zs : List TRule} {k : Nat} (hz : zs[k]? = some z) (h : ruleEq z r = false) : ruleNot r (zs.take (k + 1)) = ruleNot r (zs.take k) ++ [z] := by
  rw [take_one hz, ruleNot, List.filter_append]
  simp [ruleNot, h]
theorem ruleNot_drop {r z : TRule} {zs : List TRule} {k : Nat} (hz : zs[k]? = some z) (h : ruleEq z r = true) : ruleNot r (zs.take (k + 1)) = ruleNot r (zs.take k) := by
  rw [take_one hz, ruleNot, List.filter_append]
  simp [ruleNot, h]
theorem ruleNot_take (r : TRule) (zs : List TRule) (k : Nat) : (ruleNot r (zs.take k)).length ≤ k := Nat.le_trans (ruleNot_len _ _) (List.length_take_le _ _)

theorem rule_z {w : World} {v : Value} {zs : List TRule} (h : Sl 4 ruleC w v zs) : ∃ A c, v = .slice A zs.length c ∧ c ≤ maxLen ∧ zs.length ≤ c ∧
    ∀ k, k < zs.length → ∃ (z : TRule) (b off : Nat), zs[k]? = some z ∧ A = some ⟨b, off, none⟩ ∧ b < w.heap.size ∧ w.cell? ⟨b, off + k * 4, none⟩ = some (.int .i64 z.user) ∧ w.cell? ⟨b, off + k * 4 + 1, none⟩ = some (.string z.ref) ∧ w.cell? ⟨b, off + k * 4 + 2, none⟩ = some (.string z.path) ∧ w.cell? ⟨b, off + k * 4 + 3, none⟩ = some (.bool z.write) := by
  obtain ⟨A, c, h1, h2, h3, h4⟩ := rule_at h
  exact ⟨A, c, h1, h2, h3, fun k hk => by obtain ⟨u, r, p, f, b, off, h⟩ := h4 k hk; exact ⟨⟨u, r, p, f⟩, b, off, h⟩⟩
theorem own_form {w : World} {base n sz : Nat} {e : TypeId} {v : Value} {xs : List Value} (h : w.ownsRow base e sz v n xs) : ∃ A c, v = .slice A n c ∧ n ≤ c ∧ c ≤ maxLen := by
  rcases h.2 with ⟨rfl, rfl⟩ | ⟨g, c, _, rfl, _, _, h1, h2, _⟩
  · exact ⟨none, 0, rfl, Nat.le_refl _, by simp [maxLen]⟩
  · exact ⟨_, c, rfl, h1, h2⟩
/-- a rule as one value -/
def ruleV (r : TRule) : Value := .agg #[.int .i64 r.user, .string r.ref, .string r.path, .bool r.write]
end Go.Proofs.YtfiempmdmkoagaaDoor
