/- FnTreSize returns true for every input. -/
import Derived.Test.YtajkihibineoaaaDrawEdits
import Derived.Test.YtajkihibineoaaaTreSizeF
import Derived.Test.YtajkihibineoaaaByteOpen
import Derived.Test.YtajkihibineoaaaBelTail
namespace Go.Proofs.Ytajkihibineoaaa
open Go.ChangeShapes Go.WideShapes Go.ChangeAt Go.RowKit

/-- a call that draws a row of at most four edits out of a code -/
def DrawnEds (w : World) (e : Ending) (w' : World) : Prop :=
  ∃ (u : Value) (zs : List TEdit), (zs.length ≤ 4 ∧ 1 ≤ zs.length) ∧ edShort zs ∧ e = .returned u ∧ Own 3 editC 31 w.heap.size w' u zs ∧ Below w.heap.size w w'
theorem drawTreSize_calls (v : Value) (bs : List UInt8) (w : World) (hs : Sl 1 byteC w v bs) :
    Calls Try.prog 21 #[v] w (DrawnEds w) := by
  go_enter Try.func21, Try.ntmps21
  go_wp2_with fail
  refine (l20Open_calls w v bs w hs (below0 w)).mono ?_
  rintro e w1 ⟨g, v1, bs1, rfl, hr, hb, hg⟩
  go_wp2_with fail
  refine (l20Edits_calls w g v1 bs1 0 _ hr (by omega)).mono ?_
  rintro e w2 ⟨u, zs, q, hl, hsh, hq, rfl, hown, hr2, hg2⟩
  go_wp2
  go_ret
  exact ⟨u, zs, hl, hsh, rfl, hown.mono hb.size, hr2.bel⟩

theorem sl_drop0 {α : Type} {sz : Nat} {C : α → List Value} {w : World} {b n c : Nat} {zs : List α} (h : Sl sz C w (.slice (some ⟨b, 0, none⟩) n c) zs) (k : Nat) (hk : k ≤ n) :
    Sl sz C w (.slice (if c = k then some ⟨b, 0, none⟩ else some ⟨b, k * sz, none⟩) (n - k) (c - k)) (zs.drop k) := by
  split
  · obtain ⟨A', c', e, h1, h2, h3⟩ := h
    simp only [Value.slice.injEq] at e
    obtain ⟨rfl, rfl, rfl⟩ := e
    refine ⟨_, c - k, by rw [List.length_drop], by rw [List.length_drop]; omega, by omega, fun j a hj => ?_⟩
    rw [List.getElem?_drop] at hj
    have := (List.getElem?_eq_some_iff.1 hj).1
    omega
  · have := sl_drop h k hk
    rwa [Nat.zero_add] at this
theorem short_sum {zs : List TEdit} (h : edShort zs) : wsum editT zs ≤ zs.length * 12 := by
  induction zs with
  | nil => simp [wsum]
  | cons z zs ih =>
    have h1 := h z (by simp)
    have h2 := ih (fun y hy => h y (by simp [hy]))
    simp only [wsum, List.map_cons, List.sum_cons, List.length_cons] at h2 ⊢
    have : editT z ≤ 12 := by unfold editT; omega
    omega
set_option maxRecDepth 100000 in
theorem treSizeL_calls (W : World) (v : Value) (bs : List UInt8) (hs : Sl 1 byteC W v bs) :
    Calls Try.prog 7 #[v] W fun e w' => e = .returned (.bool true) ∧ Below W.heap.size W w' := by
  obtain ⟨A, c, rfl, hlc, hc, -⟩ := id hs
  unfold maxLen at hc
  by_cases hL : (1048576 : Int) < (bs.length : Nat)
  · go_enter Try.func7, Try.ntmps7
    go_wp2
    go_ret
    exact ⟨rfl, below0 W⟩
  · go_enter Try.func7, Try.ntmps7
    go_wp2_with fail
    refine (drawTreSize_calls _ bs _ hs).mono ?_
    rintro e w1 ⟨u, zs, hl, hsh, rfl, hown, hb1⟩
    have hsum := short_sum hsh
    have s1 := hown.sl editC_len
    obtain ⟨g, c2, e2, hc2, hlc2⟩ : ∃ g c, u = .slice (some ⟨g, 0, none⟩) zs.length c ∧ c ≤ maxLen ∧ zs.length ≤ c := by
      rcases hown.2 with ⟨_, h0⟩ | ⟨g, c, _, h, _, _, h1, h2, _⟩
      · omega
      · exact ⟨g, c, h, h2, h1⟩
    subst e2
    unfold maxLen at hc2
    obtain ⟨k, hk, hkl⟩ : ∃ k : Nat, (bs.length : Int) % ((zs.length : Int) + 1) = (k : Int) ∧ k ≤ zs.length := by
      have h1 : (0 : Int) ≤ (bs.length : Int) % ((zs.length : Int) + 1) := Int.emod_nonneg _ (by omega)
      have h2 : (bs.length : Int) % ((zs.length : Int) + 1) < (zs.length : Int) + 1 := Int.emod_lt_of_pos _ (by omega)
      exact ⟨((bs.length : Int) % ((zs.length : Int) + 1)).toNat, by omega, by omega⟩
    go_wp2_with fail
    refine (treSize_impl _ zs _ s1 (by omega)).mono ?_
    rintro e w2 ⟨rfl, hb2⟩
    go_wp2_with fail
    refine wp_region_bel_tail 18 (by kernel_rfl) (by kernel_rfl) ?_
    simp only [List.take_succ_cons, List.take_zero, List.drop_succ_cons, List.drop_zero]
    have s2 := s1.below hb2
    have hsp := wsum_split (f := editT) (zs := zs) k
    have t1 := sl_take s2 k hkl
    have t2 := sl_drop0 s2 k hkl
    have hq : ((wsum editT zs : Int) == (wsum editT (zs.take k) : Int) + (wsum editT (zs.drop k) : Int)) = true := beq_iff_eq.2 (by omega)
    repeat (go_big_quiet_step (first
      | (go_at_call 23; exact bel_call _ (treSize_spec _ zs _ (s2.below (Bel.h _)) (by omega)))
      | (go_at_call 22; exact bel_call _ (treSize_impl _ (zs.take k) _ (t1.below (Bel.h _)) (by omega)))
      | (go_at_call 22; exact bel_call _ (treSize_impl _ (zs.drop k) _ (t2.below (Bel.h _)) (by omega)))))
    refine wpQuiet_nil ?_
    intro _ hw'; obtain ⟨x, hw''⟩ := hw'; subst hw''
    have s3 := (World.ownsRow_lit (base := W.heap.size) x.w #[.string ⟨#[97, 47, 98]⟩, .string ⟨#[120, 121]⟩, .bool false] 1 (e := 31) (size := 3) (by have := hb1.size; have := hb2.size; have := x.h.size; omega) (by simp [maxLen]) rfl)
    have s4 : Sl 3 editC (x.w.alloc (.cells #[.string ⟨#[97, 47, 98]⟩, .string ⟨#[120, 121]⟩, .bool false] 31)) (.slice (some ⟨x.w.heap.size, 0, none⟩) 1 1) [⟨⟨#[97, 47, 98]⟩, ⟨#[120, 121]⟩, false⟩] := Own.sl (base := W.heap.size) editC_len s3
    have hB := al (below_up (below_up hb1 hb2) x.h) (.cells #[.string ⟨#[97, 47, 98]⟩, .string ⟨#[120, 121]⟩, .bool false] 31)
    have h5 : wsum editT [⟨⟨#[97, 47, 98]⟩, ⟨#[120, 121]⟩, false⟩] = 5 := by decide
    have hf := treSize_impl _ _ _ s4 (by rw [h5]; omega)
    rw [h5] at hf
    have HF := Lib.hid hf
    have HB := Lib.hid hB
    clear hf hB s3 s4
    go_wp2_with fail
    all_goals (
      refine HF.out.mono ?_
      rintro e w5 ⟨rfl, hb5⟩
      go_wp2
      go_ret
      exact ⟨rfl, below_up HB.out hb5⟩)
set_option maxRecDepth 100000 in
theorem treSizeL_lifted (os : Os) (started : os.Started) (H : Type) (enc : TypeId × Value → H) :
    ReturnsInHanded {} Try.checked os 7 .any (Rows.fnTreSizeSpec.pre6 enc Try.prog Try.f7 Rows.fnTreSizeRow.domain false) (Rows.fnTreSizeSpec.post enc Try.prog Try.f7 false true false false) := by
  refine returnsInHanded_of_change (C := Try.checked) Try.own started (by kernel_rfl) Try.func7
    (ChangeSpec.witness6 (enc := enc) (C := Try.checked) false ⟨#[], #[.slice none 0 0], []⟩ 8 (by kernel_rfl) (by kernel_rfl) (by kernel_rfl) (by kernel_rfl)) ?_
  intro W base args ds gs before hval0 hW _ _
  have hval : ∀ (j : Nat) t v, Try.f7.params[j]? = some t → args[j]? = some v → Value.okWide Try.prog W .any base t v := hval0
  have hW2 := hW
  obtain ⟨p, q, hA0, hV, rfl, _, _⟩ := hW
  have hA : DataW.TrodAll enc Try.prog W 0 (fun _ => true) true Try.f7.params.toList args.toList ds p := hA0
  rw [Try.params7] at hA hval
  obtain ⟨v0, d0, rfl, rfl, h0⟩ := trodAll_one hA
  obtain ⟨rfl, rfl⟩ := trodVars_none hV
  clear hA0 hval0
  simp only [List.append_nil] at hW2
  have lt0 : ∀ x ∈ p, x.block < W.heap.size := fun x hx => hW2.lt x (by simp [hx])
  have k0 := fun W2 (hb : Below W.heap.size W W2) => Below.trod Try.laidOut (by kernel_rfl) (of_decide_eq_true (by kernel_rfl)) h0 hb lt0
  obtain ⟨x0, wf0⟩ := open_bytes (hval 0 26 v0 rfl rfl) h0 lt0
  refine (treSizeL_calls W v0 x0 wf0).mono fun e W2 ⟨he, hb⟩ => ?_
  subst he
  exact ⟨_, rfl, _, _, _, [], _, [], hW2, trodAll_mk1 (shut_bool Try.underlying4 true), trodAll_mk1 (k0 W2 hb), rfl, hb.frame _, fun h => by cases h⟩

theorem treSizeL_holds : Rows.FnTreSizeSaid :=
  OpenClaim.holds_of_wide 7 Try.f7 rfl rfl rfl rfl rfl rfl rfl ⟨rfl, rfl, rfl, rfl, rfl⟩ rfl rfl rfl rfl rfl (by kernel_rfl) Try.func7 (by kernel_rfl)
    (of_decide_eq_true (by kernel_rfl)) (by unfold Func.isWrapper; rw [if_neg (of_decide_eq_false (by kernel_rfl))]; exact ⟨rfl, rfl⟩)
    (fun os started H enc _ => treSizeL_lifted os started H enc)
end Go.Proofs.Ytajkihibineoaaa
