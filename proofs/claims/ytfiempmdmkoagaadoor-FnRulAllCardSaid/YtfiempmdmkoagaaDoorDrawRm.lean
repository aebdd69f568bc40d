/- The drawing of rules, a user, a ref and a path. -/
import Derived.Test.YtfiempmdmkoagaaDoorDrawRs
import Derived.Test.YtfiempmdmkoagaaDoorDrawP
import Derived.OwnWalk
namespace Go.Proofs.YtfiempmdmkoagaaDoor
open Go.RowKit

/-- what an operation of a drawing leaves -/
inductive Dk where
  | ptr | num (n : Nat) | sl (n B : Nat) | at (B : Nat) | str (B : Nat) | bool | rules | any
def Dk.says (g : Nat) : Dk → Value → World → Prop
  | .ptr, v, _ => v = .pointer (some ⟨g, 0, none⟩)
  | .num n, v, _ => ∃ m : Nat, m < n ∧ v = .int .i64 (m : Int)
  | .sl n B, v, w => ∃ b, v = .slice (some ⟨b, 0, none⟩) n n ∧ Strs g b n B w
  | .at B, v, w => ∃ b k n, v = .pointer (some ⟨b, k, none⟩) ∧ k < n ∧ Strs g b n B w
  | .str B, v, _ => ∃ s : ByteArray, s.size ≤ B ∧ v = .string s
  | .bool, v, _ => ∃ c, v = .bool c
  | .rules, v, w => ∃ zs : List TRule, zs.length ≤ 8 ∧ ruShort zs ∧ Ever g w fun w' => Sl 4 ruleC w' v zs
  | .any, _, _ => True
theorem Dk.keep {g : Nat} {w w' : World} (hg : w.grownBy w' (some g)) : ∀ {k : Dk} {v : Value}, k.says g v w → k.says g v w'
  | .ptr, _, h => h
  | .num _, _, h => h
  | .sl _ _, _, ⟨b, e, h⟩ => ⟨b, e, h.on hg⟩
  | .at _, _, ⟨b, k, n, e, hk, h⟩ => ⟨b, k, n, e, hk, h.on hg⟩
  | .str _, _, h => h
  | .bool, _, h => h
  | .rules, _, ⟨zs, h1, h2, h⟩ => ⟨zs, h1, h2, h.on hg⟩
  | .any, _, _ => trivial
theorem results_tmp5 {fn : Func} {t u v x y : Tmp} (h : fn.results = #[.tmp t, .tmp u, .tmp v, .tmp x, .tmp y]) (tmps : Array Value) (P : Program) (w : World) :
    (results fn tmps).run P w = .ok (.tuple #[tmps.getD t undef, tmps.getD u undef, tmps.getD v undef, tmps.getD x undef, tmps.getD y undef]) w := by
  simp [results, h]
structure DJ (kd : Nat → Dk) (dst : Nat → Nat) (bud : (Nat → Bool) → Nat) (W : World) (g : Nat) (v : Value) (bs : List UInt8) (p : Nat) (L : Nat → Bool) (x : Nat → Value) (w : World) : Prop where
  rd : ∃ q, q ≤ p + bud L ∧ Rd W g v bs q w
  f : ∀ i, L i = true → (kd i).says g (x (dst i)) w
theorem DJ.step {kd : Nat → Dk} {dst : Nat → Nat} {bud : (Nat → Bool) → Nat} {W : World} {g : Nat} {v : Value} {bs : List UInt8} {p : Nat} {L : Nat → Bool} {x : Nat → Value} {w w' : World} (h : DJ kd dst bud W g v bs p L x w) (i : Nat) {u : Value}
    (hd : ∀ j, j ≠ i → dst j ≠ dst i) (hg : w.grownBy w' (some g)) (hn : (kd i).says g u w') (hr : ∃ q, q ≤ p + bud (upd L i true) ∧ Rd W g v bs q w') : DJ kd dst bud W g v bs p (upd L i true) (upd x (dst i) u) w' := by
  refine ⟨hr, fun j hj => ?_⟩
  by_cases e : j = i
  · subst e; rw [upd_same]; exact hn
  · rw [upd_other _ _ e] at hj
    rw [upd_other _ _ (hd j e)]
    exact Dk.keep hg (h.f j hj)
theorem ever_sl {α : Type} {sz : Nat} {C : α → List Value} {g : Nat} {w : World} {u : Value} {zs : List α} {e : TypeId} {base : Nat} (hl : ∀ a, (C a).length = sz) (h : Own sz C e base w u zs) (hb : g < base) : Ever g w fun w' => Sl sz C w' u zs :=
  fun _ hg => (h.grown hg (Or.inr (fun e => by have := (h.lt g e).1; omega))).sl hl

def kdRulSees : Nat → Dk
  | 0 => .ptr | 1 => .rules | 2 => .ptr | 3 => .num 5 | 4 => .sl 4 4 | 5 => .ptr | 6 => .num 4 | 7 => .at 4 | 8 => .str 4 | 9 => .rules | 10 => .num 5 | 11 => .str 4 | _ => .any
def dstRulSees : Nat → Nat
  | 0 => 8 | 1 => 9 | 2 => 10 | 3 => 11 | 4 => 12 | 5 => 13 | 6 => 14 | 7 => 15 | 8 => 16 | 9 => 2 | 10 => 3 | 11 => 4 | i => i + 100
theorem dstRulSees_ne (i : Nat) (hi : i < 12) : ∀ j, j ≠ i → dstRulSees j ≠ dstRulSees i := by
  have h : (List.range 12).all (fun i => (List.range 12).all fun j => j == i || dstRulSees j != dstRulSees i) = true := by decide
  have hs : (List.range 12).all (fun i => decide (dstRulSees i < 100)) = true := by decide
  intro j hj
  have h1 := List.all_eq_true.1 h i (List.mem_range.2 hi)
  have h2 : dstRulSees i < 100 := by simpa using List.all_eq_true.1 hs i (List.mem_range.2 hi)
  by_cases hl : j < 12
  · have h3 := List.all_eq_true.1 h1 j (List.mem_range.2 hl)
    simp at h3
    exact h3.resolve_left hj
  · unfold dstRulSees at h2 ⊢
    split <;> first | omega | skip
def budRulSees (L : Nat → Bool) : Nat := 120 * (L 1).toNat + 1 * (L 3).toNat + 1 * (L 6).toNat
def frRulSees (g : Nat) (v : Value) (x : Nat → Value) : Act := { tmps := #[v, undef, x 2, x 3, x 4, .pointer (some ⟨g, 0, none⟩), v, .pointer (some ⟨g, 0, none⟩), x 8, x 9, x 10, x 11, x 12, x 13, x 14, x 15, x 16], defers := [] }
def invRulSees (W : World) (g : Nat) (v0 v : Value) (bs : List UInt8) (L : Nat → Bool) (a : Act) (w : World) : Prop := ∃ x, a = frRulSees g v0 x ∧ DJ kdRulSees dstRulSees budRulSees W g v bs 0 L x w
/-- a call that draws rules, a user, a ref -/
def DrawRulSees (w : World) (e : Ending) (w' : World) : Prop :=
  ∃ (u : Value) (zs : List TRule) (user : Nat) (ref : ByteArray), zs.length ≤ 8 ∧ ruShort zs ∧ user < 5 ∧ ref.size ≤ 4 ∧ e = .returned (.tuple #[u, .int .i64 (user : Int), .string ref]) ∧ Sl 4 ruleC w' u zs ∧ Below w.heap.size w w'
set_option maxRecDepth 100000 in
set_option maxHeartbeats 2000000 in
theorem drawRulSees_calls (v : Value) (bs : List UInt8) (w : World) (hs : Sl 1 byteC w v bs) : Calls Tryd.prog 27 #[v] w (DrawRulSees w) := by
  go_enter Tryd.func27, Tryd.ntmps27
  go_wp2_with fail
  refine (l20Open_calls w v bs w hs (below0 w)).mono ?_
  rintro e w1 ⟨g, v1, bs1, rfl, hr, hb, hg⟩
  go_wp2_with fail
  refine wp_region_inv (invRulSees w g v v1 bs1) (by kernel_rfl) (by kernel_rfl) (fun L hL => ?_) ?_ ?_
  · refine ⟨fun j => if j = 2 then .slice none 0 0 else if j = 3 then .int .i64 0 else if j = 4 then .string ByteArray.empty else undef, rfl, ⟨0, by omega, hr.below (Below.refl _ _).drew⟩, fun i hi => ?_⟩
    by_cases h : i < 12
    · rw [hL i (by simpa using h)] at hi; cases hi
    · unfold kdRulSees; split <;> first | omega | trivial
  · refine ⟨?_, ?_, ?_, ?_, ?_, ?_, ?_, ?_, ?_, ?_, ?_, ?_, trivial⟩
    · intro L a w2 hL hd hJ K hK
      obtain ⟨x, rfl, hx⟩ := hJ
      unfold frRulSees
      go_simp
      exact hK _ _ ⟨upd x 8 (.pointer (some ⟨g, 0, none⟩)), by simp [frRulSees, upd], hx.step 0 (dstRulSees_ne 0 (by omega)) (grown_of_below (Below.refl _ _) _) rfl hx.rd⟩
    · intro L a w2 hL hd hJ K hK
      obtain ⟨x, rfl, hx⟩ := hJ
      have d0 : L 0 = true := hd ⟨0, .data⟩ (by simp) rfl
      have e1 : x 8 = .pointer (some ⟨g, 0, none⟩) := hx.f 0 d0
      obtain ⟨q, hq, hrq⟩ := hx.rd
      have hbu : budRulSees (upd L 1 true) = budRulSees L + 120 := by simp [budRulSees, upd, hL]; try omega
      have hbl : budRulSees L ≤ 2000 := by have h1 := (L 1).toNat_le; have h3 := (L 3).toNat_le; have h6 := (L 6).toNat_le; unfold budRulSees; omega
      have hglt := hrq.lt
      unfold frRulSees
      go_simp
      refine (l20Rules_calls _ g _ _ q 9 _ hrq (by omega) (by omega) (by omega)).mono ?_
      rintro e w3 ⟨u, zs, q3, hl3, hs3, hq3, rfl, own3, hr2, hg2⟩
      exact hK _ _ ⟨upd x 9 u, by simp [frRulSees, upd, e1], hx.step 1 (dstRulSees_ne 1 (by omega)) hg2 ⟨zs, hl3, hs3, ever_sl ruleC_len own3 hglt⟩ ⟨q3, by rw [hbu]; omega, hr2⟩⟩
    · intro L a w2 hL hd hJ K hK
      obtain ⟨x, rfl, hx⟩ := hJ
      unfold frRulSees
      go_simp
      exact hK _ _ ⟨upd x 10 (.pointer (some ⟨g, 0, none⟩)), by simp [frRulSees, upd], hx.step 2 (dstRulSees_ne 2 (by omega)) (grown_of_below (Below.refl _ _) _) rfl hx.rd⟩
    · intro L a w2 hL hd hJ K hK
      obtain ⟨x, rfl, hx⟩ := hJ
      have d2 : L 2 = true := hd ⟨2, .data⟩ (by simp) rfl
      have e1 : x 10 = .pointer (some ⟨g, 0, none⟩) := hx.f 2 d2
      obtain ⟨q, hq, hrq⟩ := hx.rd
      have hbu : budRulSees (upd L 3 true) = budRulSees L + 1 := by simp [budRulSees, upd, hL]; try omega
      have hbl : budRulSees L ≤ 2000 := by have h1 := (L 1).toNat_le; have h3 := (L 3).toNat_le; have h6 := (L 6).toNat_le; unfold budRulSees; omega
      have hglt := hrq.lt
      unfold frRulSees
      go_simp
      refine (pick_calls _ g _ _ q 5 _ hrq (by omega) (by omega) (by omega)).mono ?_
      rintro e w3 ⟨y, hy, rfl, hr2, hg2⟩
      obtain ⟨m, rfl⟩ := Int.eq_ofNat_of_zero_le hy.1
      exact hK _ _ ⟨upd x 11 (.int .i64 (m : Int)), by simp [frRulSees, upd, e1], hx.step 3 (dstRulSees_ne 3 (by omega)) hg2 ⟨m, by omega, rfl⟩ ⟨q + 1, by rw [hbu]; omega, hr2⟩⟩
    · intro L a w2 hL hd hJ K hK
      obtain ⟨x, rfl, hx⟩ := hJ
      obtain ⟨q, hq, hrq⟩ := hx.rd
      have hglt := hrq.lt
      unfold frRulSees
      go_simp
      exact hK _ _ ⟨upd x 12 (.slice (some ⟨w2.heap.size, 0, none⟩) 4 4), by simp [frRulSees, upd], hx.step 4 (dstRulSees_ne 4 (by omega)) (alloc_grown w2 _ _) ⟨w2.heap.size, rfl, strs_new hglt rfl⟩ ⟨q, hq, Rd.al hrq _⟩⟩
    · intro L a w2 hL hd hJ K hK
      obtain ⟨x, rfl, hx⟩ := hJ
      unfold frRulSees
      go_simp
      exact hK _ _ ⟨upd x 13 (.pointer (some ⟨g, 0, none⟩)), by simp [frRulSees, upd], hx.step 5 (dstRulSees_ne 5 (by omega)) (grown_of_below (Below.refl _ _) _) rfl hx.rd⟩
    · intro L a w2 hL hd hJ K hK
      obtain ⟨x, rfl, hx⟩ := hJ
      have d5 : L 5 = true := hd ⟨5, .data⟩ (by simp) rfl
      have e1 : x 13 = .pointer (some ⟨g, 0, none⟩) := hx.f 5 d5
      obtain ⟨q, hq, hrq⟩ := hx.rd
      have hbu : budRulSees (upd L 6 true) = budRulSees L + 1 := by simp [budRulSees, upd, hL]; try omega
      have hbl : budRulSees L ≤ 2000 := by have h1 := (L 1).toNat_le; have h3 := (L 3).toNat_le; have h6 := (L 6).toNat_le; unfold budRulSees; omega
      have hglt := hrq.lt
      unfold frRulSees
      go_simp
      refine (pick_calls _ g _ _ q 4 _ hrq (by omega) (by omega) (by omega)).mono ?_
      rintro e w3 ⟨y, hy, rfl, hr2, hg2⟩
      obtain ⟨m, rfl⟩ := Int.eq_ofNat_of_zero_le hy.1
      exact hK _ _ ⟨upd x 14 (.int .i64 (m : Int)), by simp [frRulSees, upd, e1], hx.step 6 (dstRulSees_ne 6 (by omega)) hg2 ⟨m, by omega, rfl⟩ ⟨q + 1, by rw [hbu]; omega, hr2⟩⟩
    · intro L a w2 hL hd hJ K hK
      obtain ⟨x, rfl, hx⟩ := hJ
      have d4 : L 4 = true := hd ⟨4, .data⟩ (by simp) rfl
      have d6 : L 6 = true := hd ⟨6, .data⟩ (by simp) rfl
      obtain ⟨b, ea, hs⟩ : ∃ b, x 12 = .slice (some ⟨b, 0, none⟩) 4 4 ∧ Strs g b 4 4 w2 := hx.f 4 d4
      obtain ⟨m, hm, eb⟩ : ∃ m : Nat, m < 4 ∧ x 14 = .int .i64 (m : Int) := hx.f 6 d6
      have hmi : (m : Int) < 4 := by omega
      unfold frRulSees
      go_simp
      exact hK _ _ ⟨upd x 15 (.pointer (some ⟨b, m, none⟩)), by simp [frRulSees, upd, ea, eb], hx.step 7 (dstRulSees_ne 7 (by omega)) (grown_of_below (Below.refl _ _) _) ⟨b, m, 4, rfl, hm, hs⟩ hx.rd⟩
    · intro L a w2 hL hd hJ K hK
      obtain ⟨x, rfl, hx⟩ := hJ
      have d7 : L 7 = true := hd ⟨7, .data⟩ (by simp) rfl
      obtain ⟨b, k, nn, ea, hk, hs⟩ : ∃ b k n, x 15 = .pointer (some ⟨b, k, none⟩) ∧ k < n ∧ Strs g b n 4 w2 := hx.f 7 d7
      obtain ⟨s, hc, hsz⟩ := hs.now k hk
      unfold frRulSees
      go_simp
      exact hK _ _ ⟨upd x 16 (.string s), by simp [frRulSees, upd, ea], hx.step 8 (dstRulSees_ne 8 (by omega)) (grown_of_below (Below.refl _ _) _) ⟨s, hsz, rfl⟩ hx.rd⟩
    · intro L a w2 hL hd hJ K hK
      obtain ⟨x, rfl, hx⟩ := hJ
      have d1 : L 1 = true := hd ⟨1, .data⟩ (by simp) rfl
      have e1 : (kdRulSees 1).says g (x 9) w2 := hx.f 1 d1
      unfold frRulSees
      go_simp
      exact hK _ _ ⟨upd x 2 (x 9), by simp [frRulSees, upd], hx.step 9 (dstRulSees_ne 9 (by omega)) (grown_of_below (Below.refl _ _) _) e1 hx.rd⟩
    · intro L a w2 hL hd hJ K hK
      obtain ⟨x, rfl, hx⟩ := hJ
      have d3 : L 3 = true := hd ⟨3, .data⟩ (by simp) rfl
      have e1 : (kdRulSees 3).says g (x 11) w2 := hx.f 3 d3
      unfold frRulSees
      go_simp
      exact hK _ _ ⟨upd x 3 (x 11), by simp [frRulSees, upd], hx.step 10 (dstRulSees_ne 10 (by omega)) (grown_of_below (Below.refl _ _) _) e1 hx.rd⟩
    · intro L a w2 hL hd hJ K hK
      obtain ⟨x, rfl, hx⟩ := hJ
      have d8 : L 8 = true := hd ⟨8, .data⟩ (by simp) rfl
      have e1 : (kdRulSees 8).says g (x 16) w2 := hx.f 8 d8
      unfold frRulSees
      go_simp
      exact hK _ _ ⟨upd x 4 (x 16), by simp [frRulSees, upd], hx.step 11 (dstRulSees_ne 11 (by omega)) (grown_of_below (Below.refl _ _) _) e1 hx.rd⟩
  · intro L a w2 hL hJ
    obtain ⟨x, rfl, hx⟩ := hJ
    obtain ⟨zs, hl, hsh, hE⟩ : ∃ zs : List TRule, zs.length ≤ 8 ∧ ruShort zs ∧ Ever g w2 fun w' => Sl 4 ruleC w' (x 2) zs := hx.f 9 (hL 9 (by simp))
    have hsl := hE.now
    obtain ⟨user, hu, eu⟩ : ∃ m : Nat, m < 5 ∧ x 3 = .int .i64 (m : Int) := hx.f 10 (hL 10 (by simp))
    obtain ⟨ref, href, er⟩ : ∃ s : ByteArray, s.size ≤ 4 ∧ x 4 = .string s := hx.f 11 (hL 11 (by simp))
    obtain ⟨q, hq, hrq⟩ := hx.rd
    have hB := hrq.bel
    clear hE hx
    generalize hu0 : x 2 = u at hsl
    unfold frRulSees
    rw [hu0, eu, er]
    go_wp2
    go_ret3
    exact ⟨u, zs, user, ref, hl, hsh, hu, href, rfl, hsl, hB⟩
def kdRulMay : Nat → Dk
  | 0 => .ptr | 1 => .rules | 2 => .ptr | 3 => .num 5 | 4 => .sl 4 4 | 5 => .ptr | 6 => .num 4 | 7 => .at 4 | 8 => .str 4 | 9 => .ptr | 10 => .str 11 | 11 => .ptr | 12 => .num 2 | 13 => .bool | 14 => .rules | 15 => .num 5 | 16 => .str 4 | 17 => .str 11 | 18 => .bool | _ => .any
def dstRulMay : Nat → Nat
  | 0 => 10 | 1 => 11 | 2 => 12 | 3 => 13 | 4 => 14 | 5 => 15 | 6 => 16 | 7 => 17 | 8 => 18 | 9 => 19 | 10 => 20 | 11 => 21 | 12 => 22 | 13 => 23 | 14 => 2 | 15 => 3 | 16 => 4 | 17 => 5 | 18 => 6 | i => i + 100
theorem dstRulMay_ne (i : Nat) (hi : i < 19) : ∀ j, j ≠ i → dstRulMay j ≠ dstRulMay i := by
  have h : (List.range 19).all (fun i => (List.range 19).all fun j => j == i || dstRulMay j != dstRulMay i) = true := by decide
  have hs : (List.range 19).all (fun i => decide (dstRulMay i < 100)) = true := by decide
  intro j hj
  have h1 := List.all_eq_true.1 h i (List.mem_range.2 hi)
  have h2 : dstRulMay i < 100 := by simpa using List.all_eq_true.1 hs i (List.mem_range.2 hi)
  by_cases hl : j < 19
  · have h3 := List.all_eq_true.1 h1 j (List.mem_range.2 hl)
    simp at h3
    exact h3.resolve_left hj
  · unfold dstRulMay at h2 ⊢
    split <;> first | omega | skip
def budRulMay (L : Nat → Bool) : Nat := 120 * (L 1).toNat + 1 * (L 3).toNat + 1 * (L 6).toNat + 5 * (L 10).toNat + 1 * (L 12).toNat
def frRulMay (g : Nat) (v : Value) (x : Nat → Value) : Act := { tmps := #[v, undef, x 2, x 3, x 4, x 5, x 6, .pointer (some ⟨g, 0, none⟩), v, .pointer (some ⟨g, 0, none⟩), x 10, x 11, x 12, x 13, x 14, x 15, x 16, x 17, x 18, x 19, x 20, x 21, x 22, x 23], defers := [] }
def invRulMay (W : World) (g : Nat) (v0 v : Value) (bs : List UInt8) (L : Nat → Bool) (a : Act) (w : World) : Prop := ∃ x, a = frRulMay g v0 x ∧ DJ kdRulMay dstRulMay budRulMay W g v bs 0 L x w
/-- a call that draws rules, a user, a ref, a path, and whether to write -/
def DrawRulMay (w : World) (e : Ending) (w' : World) : Prop :=
  ∃ (u : Value) (zs : List TRule) (user : Nat) (ref path : ByteArray) (c : Bool), zs.length ≤ 8 ∧ ruShort zs ∧ user < 5 ∧ ref.size ≤ 4 ∧ path.size ≤ 11 ∧ e = .returned (.tuple #[u, .int .i64 (user : Int), .string ref, .string path, .bool c]) ∧ Sl 4 ruleC w' u zs ∧ Below w.heap.size w w'
set_option maxRecDepth 100000 in
set_option maxHeartbeats 2000000 in
theorem drawRulMay_calls (v : Value) (bs : List UInt8) (w : World) (hs : Sl 1 byteC w v bs) : Calls Tryd.prog 31 #[v] w (DrawRulMay w) := by
  go_enter Tryd.func31, Tryd.ntmps31
  go_wp2_with fail
  refine (l20Open_calls w v bs w hs (below0 w)).mono ?_
  rintro e w1 ⟨g, v1, bs1, rfl, hr, hb, hg⟩
  go_wp2_with fail
  refine wp_region_inv (invRulMay w g v v1 bs1) (by kernel_rfl) (by kernel_rfl) (fun L hL => ?_) ?_ ?_
  · refine ⟨fun j => if j = 2 then .slice none 0 0 else if j = 3 then .int .i64 0 else if j = 4 then .string ByteArray.empty else if j = 5 then .string ByteArray.empty else if j = 6 then .bool false else undef, rfl, ⟨0, by omega, hr.below (Below.refl _ _).drew⟩, fun i hi => ?_⟩
    by_cases h : i < 19
    · rw [hL i (by simpa using h)] at hi; cases hi
    · unfold kdRulMay; split <;> first | omega | trivial
  · refine ⟨?_, ?_, ?_, ?_, ?_, ?_, ?_, ?_, ?_, ?_, ?_, ?_, ?_, ?_, ?_, ?_, ?_, ?_, ?_, trivial⟩
    · intro L a w2 hL hd hJ K hK
      obtain ⟨x, rfl, hx⟩ := hJ
      unfold frRulMay
      go_simp
      exact hK _ _ ⟨upd x 10 (.pointer (some ⟨g, 0, none⟩)), by simp [frRulMay, upd], hx.step 0 (dstRulMay_ne 0 (by omega)) (grown_of_below (Below.refl _ _) _) rfl hx.rd⟩
    · intro L a w2 hL hd hJ K hK
      obtain ⟨x, rfl, hx⟩ := hJ
      have d0 : L 0 = true := hd ⟨0, .data⟩ (by simp) rfl
      have e1 : x 10 = .pointer (some ⟨g, 0, none⟩) := hx.f 0 d0
      obtain ⟨q, hq, hrq⟩ := hx.rd
      have hbu : budRulMay (upd L 1 true) = budRulMay L + 120 := by simp [budRulMay, upd, hL]; try omega
      have hbl : budRulMay L ≤ 2000 := by have h1 := (L 1).toNat_le; have h3 := (L 3).toNat_le; have h6 := (L 6).toNat_le; have h10 := (L 10).toNat_le; have h12 := (L 12).toNat_le; unfold budRulMay; omega
      have hglt := hrq.lt
      unfold frRulMay
      go_simp
      refine (l20Rules_calls _ g _ _ q 9 _ hrq (by omega) (by omega) (by omega)).mono ?_
      rintro e w3 ⟨u, zs, q3, hl3, hs3, hq3, rfl, own3, hr2, hg2⟩
      exact hK _ _ ⟨upd x 11 u, by simp [frRulMay, upd, e1], hx.step 1 (dstRulMay_ne 1 (by omega)) hg2 ⟨zs, hl3, hs3, ever_sl ruleC_len own3 hglt⟩ ⟨q3, by rw [hbu]; omega, hr2⟩⟩
    · intro L a w2 hL hd hJ K hK
      obtain ⟨x, rfl, hx⟩ := hJ
      unfold frRulMay
      go_simp
      exact hK _ _ ⟨upd x 12 (.pointer (some ⟨g, 0, none⟩)), by simp [frRulMay, upd], hx.step 2 (dstRulMay_ne 2 (by omega)) (grown_of_below (Below.refl _ _) _) rfl hx.rd⟩
    · intro L a w2 hL hd hJ K hK
      obtain ⟨x, rfl, hx⟩ := hJ
      have d2 : L 2 = true := hd ⟨2, .data⟩ (by simp) rfl
      have e1 : x 12 = .pointer (some ⟨g, 0, none⟩) := hx.f 2 d2
      obtain ⟨q, hq, hrq⟩ := hx.rd
      have hbu : budRulMay (upd L 3 true) = budRulMay L + 1 := by simp [budRulMay, upd, hL]; try omega
      have hbl : budRulMay L ≤ 2000 := by have h1 := (L 1).toNat_le; have h3 := (L 3).toNat_le; have h6 := (L 6).toNat_le; have h10 := (L 10).toNat_le; have h12 := (L 12).toNat_le; unfold budRulMay; omega
      have hglt := hrq.lt
      unfold frRulMay
      go_simp
      refine (pick_calls _ g _ _ q 5 _ hrq (by omega) (by omega) (by omega)).mono ?_
      rintro e w3 ⟨y, hy, rfl, hr2, hg2⟩
      obtain ⟨m, rfl⟩ := Int.eq_ofNat_of_zero_le hy.1
      exact hK _ _ ⟨upd x 13 (.int .i64 (m : Int)), by simp [frRulMay, upd, e1], hx.step 3 (dstRulMay_ne 3 (by omega)) hg2 ⟨m, by omega, rfl⟩ ⟨q + 1, by rw [hbu]; omega, hr2⟩⟩
    · intro L a w2 hL hd hJ K hK
      obtain ⟨x, rfl, hx⟩ := hJ
      obtain ⟨q, hq, hrq⟩ := hx.rd
      have hglt := hrq.lt
      unfold frRulMay
      go_simp
      exact hK _ _ ⟨upd x 14 (.slice (some ⟨w2.heap.size, 0, none⟩) 4 4), by simp [frRulMay, upd], hx.step 4 (dstRulMay_ne 4 (by omega)) (alloc_grown w2 _ _) ⟨w2.heap.size, rfl, strs_new hglt rfl⟩ ⟨q, hq, Rd.al hrq _⟩⟩
    · intro L a w2 hL hd hJ K hK
      obtain ⟨x, rfl, hx⟩ := hJ
      unfold frRulMay
      go_simp
      exact hK _ _ ⟨upd x 15 (.pointer (some ⟨g, 0, none⟩)), by simp [frRulMay, upd], hx.step 5 (dstRulMay_ne 5 (by omega)) (grown_of_below (Below.refl _ _) _) rfl hx.rd⟩
    · intro L a w2 hL hd hJ K hK
      obtain ⟨x, rfl, hx⟩ := hJ
      have d5 : L 5 = true := hd ⟨5, .data⟩ (by simp) rfl
      have e1 : x 15 = .pointer (some ⟨g, 0, none⟩) := hx.f 5 d5
      obtain ⟨q, hq, hrq⟩ := hx.rd
      have hbu : budRulMay (upd L 6 true) = budRulMay L + 1 := by simp [budRulMay, upd, hL]; try omega
      have hbl : budRulMay L ≤ 2000 := by have h1 := (L 1).toNat_le; have h3 := (L 3).toNat_le; have h6 := (L 6).toNat_le; have h10 := (L 10).toNat_le; have h12 := (L 12).toNat_le; unfold budRulMay; omega
      have hglt := hrq.lt
      unfold frRulMay
      go_simp
      refine (pick_calls _ g _ _ q 4 _ hrq (by omega) (by omega) (by omega)).mono ?_
      rintro e w3 ⟨y, hy, rfl, hr2, hg2⟩
      obtain ⟨m, rfl⟩ := Int.eq_ofNat_of_zero_le hy.1
      exact hK _ _ ⟨upd x 16 (.int .i64 (m : Int)), by simp [frRulMay, upd, e1], hx.step 6 (dstRulMay_ne 6 (by omega)) hg2 ⟨m, by omega, rfl⟩ ⟨q + 1, by rw [hbu]; omega, hr2⟩⟩
    · intro L a w2 hL hd hJ K hK
      obtain ⟨x, rfl, hx⟩ := hJ
      have d4 : L 4 = true := hd ⟨4, .data⟩ (by simp) rfl
      have d6 : L 6 = true := hd ⟨6, .data⟩ (by simp) rfl
      obtain ⟨b, ea, hs⟩ : ∃ b, x 14 = .slice (some ⟨b, 0, none⟩) 4 4 ∧ Strs g b 4 4 w2 := hx.f 4 d4
      obtain ⟨m, hm, eb⟩ : ∃ m : Nat, m < 4 ∧ x 16 = .int .i64 (m : Int) := hx.f 6 d6
      have hmi : (m : Int) < 4 := by omega
      unfold frRulMay
      go_simp
      exact hK _ _ ⟨upd x 17 (.pointer (some ⟨b, m, none⟩)), by simp [frRulMay, upd, ea, eb], hx.step 7 (dstRulMay_ne 7 (by omega)) (grown_of_below (Below.refl _ _) _) ⟨b, m, 4, rfl, hm, hs⟩ hx.rd⟩
    · intro L a w2 hL hd hJ K hK
      obtain ⟨x, rfl, hx⟩ := hJ
      have d7 : L 7 = true := hd ⟨7, .data⟩ (by simp) rfl
      obtain ⟨b, k, nn, ea, hk, hs⟩ : ∃ b k n, x 17 = .pointer (some ⟨b, k, none⟩) ∧ k < n ∧ Strs g b n 4 w2 := hx.f 7 d7
      obtain ⟨s, hc, hsz⟩ := hs.now k hk
      unfold frRulMay
      go_simp
      exact hK _ _ ⟨upd x 18 (.string s), by simp [frRulMay, upd, ea], hx.step 8 (dstRulMay_ne 8 (by omega)) (grown_of_below (Below.refl _ _) _) ⟨s, hsz, rfl⟩ hx.rd⟩
    · intro L a w2 hL hd hJ K hK
      obtain ⟨x, rfl, hx⟩ := hJ
      unfold frRulMay
      go_simp
      exact hK _ _ ⟨upd x 19 (.pointer (some ⟨g, 0, none⟩)), by simp [frRulMay, upd], hx.step 9 (dstRulMay_ne 9 (by omega)) (grown_of_below (Below.refl _ _) _) rfl hx.rd⟩
    · intro L a w2 hL hd hJ K hK
      obtain ⟨x, rfl, hx⟩ := hJ
      have d9 : L 9 = true := hd ⟨9, .data⟩ (by simp) rfl
      have e1 : x 19 = .pointer (some ⟨g, 0, none⟩) := hx.f 9 d9
      obtain ⟨q, hq, hrq⟩ := hx.rd
      have hbu : budRulMay (upd L 10 true) = budRulMay L + 5 := by simp [budRulMay, upd, hL]; try omega
      have hbl : budRulMay L ≤ 2000 := by have h1 := (L 1).toNat_le; have h3 := (L 3).toNat_le; have h6 := (L 6).toNat_le; have h10 := (L 10).toNat_le; have h12 := (L 12).toNat_le; unfold budRulMay; omega
      have hglt := hrq.lt
      unfold frRulMay
      go_simp
      refine (anyPath_calls _ g _ _ q 9 _ hrq (by omega) (by omega) (by omega)).mono ?_
      rintro e w3 ⟨s, q3, hs3, hq3, rfl, hr2, hg2⟩
      exact hK _ _ ⟨upd x 20 (.string s), by simp [frRulMay, upd, e1], hx.step 10 (dstRulMay_ne 10 (by omega)) hg2 ⟨s, hs3, rfl⟩ ⟨q3, by rw [hbu]; omega, hr2⟩⟩
    · intro L a w2 hL hd hJ K hK
      obtain ⟨x, rfl, hx⟩ := hJ
      unfold frRulMay
      go_simp
      exact hK _ _ ⟨upd x 21 (.pointer (some ⟨g, 0, none⟩)), by simp [frRulMay, upd], hx.step 11 (dstRulMay_ne 11 (by omega)) (grown_of_below (Below.refl _ _) _) rfl hx.rd⟩
    · intro L a w2 hL hd hJ K hK
      obtain ⟨x, rfl, hx⟩ := hJ
      have d11 : L 11 = true := hd ⟨11, .data⟩ (by simp) rfl
      have e1 : x 21 = .pointer (some ⟨g, 0, none⟩) := hx.f 11 d11
      obtain ⟨q, hq, hrq⟩ := hx.rd
      have hbu : budRulMay (upd L 12 true) = budRulMay L + 1 := by simp [budRulMay, upd, hL]; try omega
      have hbl : budRulMay L ≤ 2000 := by have h1 := (L 1).toNat_le; have h3 := (L 3).toNat_le; have h6 := (L 6).toNat_le; have h10 := (L 10).toNat_le; have h12 := (L 12).toNat_le; unfold budRulMay; omega
      have hglt := hrq.lt
      unfold frRulMay
      go_simp
      refine (pick_calls _ g _ _ q 2 _ hrq (by omega) (by omega) (by omega)).mono ?_
      rintro e w3 ⟨y, hy, rfl, hr2, hg2⟩
      obtain ⟨m, rfl⟩ := Int.eq_ofNat_of_zero_le hy.1
      exact hK _ _ ⟨upd x 22 (.int .i64 (m : Int)), by simp [frRulMay, upd, e1], hx.step 12 (dstRulMay_ne 12 (by omega)) hg2 ⟨m, by omega, rfl⟩ ⟨q + 1, by rw [hbu]; omega, hr2⟩⟩
    · intro L a w2 hL hd hJ K hK
      obtain ⟨x, rfl, hx⟩ := hJ
      have d12 : L 12 = true := hd ⟨12, .data⟩ (by simp) rfl
      obtain ⟨m, hm, eb⟩ : ∃ m : Nat, m < 2 ∧ x 22 = .int .i64 (m : Int) := hx.f 12 d12
      unfold frRulMay
      go_simp
      exact hK _ _ ⟨upd x 23 (.bool ((m : Int) == 0)), by simp [frRulMay, upd, eb], hx.step 13 (dstRulMay_ne 13 (by omega)) (grown_of_below (Below.refl _ _) _) ⟨_, rfl⟩ hx.rd⟩
    · intro L a w2 hL hd hJ K hK
      obtain ⟨x, rfl, hx⟩ := hJ
      have d1 : L 1 = true := hd ⟨1, .data⟩ (by simp) rfl
      have e1 : (kdRulMay 1).says g (x 11) w2 := hx.f 1 d1
      unfold frRulMay
      go_simp
      exact hK _ _ ⟨upd x 2 (x 11), by simp [frRulMay, upd], hx.step 14 (dstRulMay_ne 14 (by omega)) (grown_of_below (Below.refl _ _) _) e1 hx.rd⟩
    · intro L a w2 hL hd hJ K hK
      obtain ⟨x, rfl, hx⟩ := hJ
      have d3 : L 3 = true := hd ⟨3, .data⟩ (by simp) rfl
      have e1 : (kdRulMay 3).says g (x 13) w2 := hx.f 3 d3
      unfold frRulMay
      go_simp
      exact hK _ _ ⟨upd x 3 (x 13), by simp [frRulMay, upd], hx.step 15 (dstRulMay_ne 15 (by omega)) (grown_of_below (Below.refl _ _) _) e1 hx.rd⟩
    · intro L a w2 hL hd hJ K hK
      obtain ⟨x, rfl, hx⟩ := hJ
      have d8 : L 8 = true := hd ⟨8, .data⟩ (by simp) rfl
      have e1 : (kdRulMay 8).says g (x 18) w2 := hx.f 8 d8
      unfold frRulMay
      go_simp
      exact hK _ _ ⟨upd x 4 (x 18), by simp [frRulMay, upd], hx.step 16 (dstRulMay_ne 16 (by omega)) (grown_of_below (Below.refl _ _) _) e1 hx.rd⟩
    · intro L a w2 hL hd hJ K hK
      obtain ⟨x, rfl, hx⟩ := hJ
      have d10 : L 10 = true := hd ⟨10, .data⟩ (by simp) rfl
      have e1 : (kdRulMay 10).says g (x 20) w2 := hx.f 10 d10
      unfold frRulMay
      go_simp
      exact hK _ _ ⟨upd x 5 (x 20), by simp [frRulMay, upd], hx.step 17 (dstRulMay_ne 17 (by omega)) (grown_of_below (Below.refl _ _) _) e1 hx.rd⟩
    · intro L a w2 hL hd hJ K hK
      obtain ⟨x, rfl, hx⟩ := hJ
      have d13 : L 13 = true := hd ⟨13, .data⟩ (by simp) rfl
      have e1 : (kdRulMay 13).says g (x 23) w2 := hx.f 13 d13
      unfold frRulMay
      go_simp
      exact hK _ _ ⟨upd x 6 (x 23), by simp [frRulMay, upd], hx.step 18 (dstRulMay_ne 18 (by omega)) (grown_of_below (Below.refl _ _) _) e1 hx.rd⟩
  · intro L a w2 hL hJ
    obtain ⟨x, rfl, hx⟩ := hJ
    obtain ⟨zs, hl, hsh, hE⟩ : ∃ zs : List TRule, zs.length ≤ 8 ∧ ruShort zs ∧ Ever g w2 fun w' => Sl 4 ruleC w' (x 2) zs := hx.f 14 (hL 14 (by simp))
    have hsl := hE.now
    obtain ⟨user, hu, eu⟩ : ∃ m : Nat, m < 5 ∧ x 3 = .int .i64 (m : Int) := hx.f 15 (hL 15 (by simp))
    obtain ⟨ref, href, er⟩ : ∃ s : ByteArray, s.size ≤ 4 ∧ x 4 = .string s := hx.f 16 (hL 16 (by simp))
    obtain ⟨path, hpath, ep⟩ : ∃ s : ByteArray, s.size ≤ 11 ∧ x 5 = .string s := hx.f 17 (hL 17 (by simp))
    obtain ⟨c, ec⟩ : ∃ c, x 6 = .bool c := hx.f 18 (hL 18 (by simp))
    obtain ⟨q, hq, hrq⟩ := hx.rd
    have hB := hrq.bel
    clear hE hx
    generalize hu0 : x 2 = u at hsl
    unfold frRulMay
    rw [hu0, eu, er, ep, ec]
    go_wp2
    (try simp only [Exit.inBlock, Exit.then])
    refine bodyPost_ret (results_tmp5 rfl _ _ _) rfl ?_
    exact ⟨u, zs, user, ref, path, c, hl, hsh, hu, href, hpath, rfl, hsl, hB⟩
end Go.Proofs.YtfiempmdmkoagaaDoor
