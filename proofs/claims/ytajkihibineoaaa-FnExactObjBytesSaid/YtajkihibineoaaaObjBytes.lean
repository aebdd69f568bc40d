/- FnExactObjBytes returns true for every string. No condition. -/
import Derived.Test.YtajkihibineoaaaObjF3
namespace Go.Proofs.Ytajkihibineoaaa
open Go.ChangeShapes Go.WideShapes Go.ChangeAt Go.RowKit
open Go.ChangeMaps (open_string)

/-- is the text a leaf -/
def leafB (s : ByteArray) : Prop := ∃ h : 0 < s.size, s[0].toNat = 76 ∧ s.size ≤ 7
def KindPost (w : World) (e : Ending) (w' : World) : Prop := ∃ n : Int, (n == 1) = false ∧ e = .returned (.int .i64 n) ∧ Below w.heap.size w w'
theorem objKind_leaf (s : ByteArray) (w : World) (h0 : 0 < s.size) (h1 : (s[0].toNat : Int) = 76) (h2 : s.size ≤ 7) : Calls Try.prog 68 #[.string s] w fun e w' => e = .returned (.int .i64 1) ∧ w = w' := by
  have hd1 : decide (0 < s.size) = true := by simp; omega
  have hd2 : ((s[0].toNat : Int) == 76) = true := beq_iff_eq.2 h1
  have hd3 : decide ((s.size : Int) ≤ 7) = true := by simp; omega
  clear h1
  go_enter Try.func68, Try.ntmps68
  go_wp2
  go_ret
  exact ⟨rfl, rfl⟩
set_option maxRecDepth 100000 in
theorem objKind_other (s : ByteArray) (w : World) (hs : s.size ≤ 1048576) (h : ¬ leafB s) : Calls Try.prog 68 #[.string s] w (KindPost w) := by
  have HE := Lib.hid (fun W => objEntries_calls s W hs)
  by_cases h0 : 0 < s.size
  · by_cases h1 : (s[0].toNat : Int) = 76
    · have h2 : ¬ s.size ≤ 7 := fun hle => h ⟨h0, by omega, hle⟩
      have hd2 : ((s[0].toNat : Int) == 76) = true := beq_iff_eq.2 h1
      clear h1 h
      go_enter Try.func68, Try.ntmps68
      go_wp2_with fail
      refine (HE.out _).mono ?_
      rintro e w1 ⟨v, b, rfl, hb1⟩
      cases b
      · go_wp2
        go_ret
        exact ⟨0, rfl, rfl, hb1⟩
      · go_wp2
        go_ret
        exact ⟨2, rfl, rfl, hb1⟩
    · have hd2 : ((s[0].toNat : Int) == 76) = false := beq_eq_false_iff_ne.2 h1
      clear h1 h
      go_enter Try.func68, Try.ntmps68
      go_wp2_with fail
      refine (HE.out _).mono ?_
      rintro e w1 ⟨v, b, rfl, hb1⟩
      cases b
      · go_wp2
        go_ret
        exact ⟨0, rfl, rfl, hb1⟩
      · go_wp2
        go_ret
        exact ⟨2, rfl, rfl, hb1⟩
  · clear h
    go_enter Try.func68, Try.ntmps68
    go_wp2_with fail
    refine (HE.out _).mono ?_
    rintro e w1 ⟨v, b, rfl, hb1⟩
    cases b
    · go_wp2
      go_ret
      exact ⟨0, rfl, rfl, hb1⟩
    · go_wp2
      go_ret
      exact ⟨2, rfl, rfl, hb1⟩

theorem objBytes_spec_leaf (s : ByteArray) (w : World) (h0 : 0 < s.size) (h1 : (s[0].toNat : Int) = 76) (h2 : s.size ≤ 7) : Calls Try.prog 48 #[.string s] w fun e w' => e = .returned (.tuple #[.string (s.extract 1 s.size), .bool true]) ∧ Below w.heap.size w w' := by
  have HK := Lib.hid (objKind_leaf s w h0 h1 h2)
  clear h1
  go_enter Try.func48, Try.ntmps48
  go_wp2_with fail
  refine HK.out.mono ?_
  rintro e w1 ⟨rfl, rfl⟩
  go_wp2
  go_ret2
  exact ⟨rfl, below0 _⟩
theorem objBytes_spec_other (s : ByteArray) (w : World) (hs : s.size ≤ 1048576) (h : ¬ leafB s) : Calls Try.prog 48 #[.string s] w fun e w' => e = .returned (.tuple #[.string ByteArray.empty, .bool false]) ∧ Below w.heap.size w w' := by
  have HK := Lib.hid (objKind_other s w hs h)
  clear h
  go_enter Try.func48, Try.ntmps48
  go_wp2_with fail
  refine HK.out.mono ?_
  rintro e w1 ⟨n, hn, rfl, hb1⟩
  have hn2 : (n != 1) = true := by simp [bne, hn]
  clear hn
  go_wp2
  go_ret2
  exact ⟨rfl, hb1⟩
theorem isEmpty_no {s : ByteArray} (h0 : 0 < s.size) : s.toList.isEmpty = false := by
  rw [ByteArray.toList_eq]
  cases h : s.data.toList with
  | nil =>
    have h1 : s.data.toList.length = 0 := by rw [h]; rfl
    have h2 : s.data.toList.length = s.size := by simp
    omega
  | cons _ _ => rfl
theorem isEmpty_yes {s : ByteArray} (h0 : ¬ 0 < s.size) : s.toList.isEmpty = true := by
  rw [ByteArray.toList_eq, List.isEmpty_iff]
  apply List.eq_nil_of_length_eq_zero
  have h2 : s.data.toList.length = s.size := by simp
  omega
theorem objBytes_impl_leaf (s : ByteArray) (w : World) (h0 : 0 < s.size) (h1 : (s[0].toNat : Int) = 76) (h2 : s.size ≤ 7) : Calls Try.prog 49 #[.string s] w fun e w' => e = .returned (.tuple #[.string (s.extract 1 s.size), .bool true]) ∧ Below w.heap.size w w' := by
  have hd1 := isEmpty_no h0
  have hd2 : ((s[0].toNat : Int) != 76) = false := by simp; omega
  clear h1
  go_enter Try.func49, Try.ntmps49
  go_wp2
  go_ret2
  exact ⟨rfl, below0 _⟩
theorem objBytes_impl_other (s : ByteArray) (w : World) (h : ¬ leafB s) : Calls Try.prog 49 #[.string s] w fun e w' => e = .returned (.tuple #[.string ByteArray.empty, .bool false]) ∧ Below w.heap.size w w' := by
  by_cases h0 : 0 < s.size
  · have hd1 := isEmpty_no h0
    by_cases h1 : (s[0].toNat : Int) = 76
    · have h2 : ¬ s.size ≤ 7 := fun hle => h ⟨h0, by omega, hle⟩
      have hd2 : ((s[0].toNat : Int) != 76) = false := by simp; omega
      have hd3 : decide ((7 : Int) < (s.size : Int)) = true := by simp; omega
      clear h1 h
      go_enter Try.func49, Try.ntmps49
      go_wp2
      go_ret2
      exact ⟨rfl, below0 _⟩
    · have hd2 : ((s[0].toNat : Int) != 76) = true := by simp; omega
      clear h1 h
      go_enter Try.func49, Try.ntmps49
      go_wp2
      go_ret2
      exact ⟨rfl, below0 _⟩
  · have hd1 := isEmpty_yes h0
    clear h
    go_enter Try.func49, Try.ntmps49
    go_wp2
    go_ret2
    exact ⟨rfl, below0 _⟩

theorem objBytesLaw_calls (s : ByteArray) (hs : s.size ≤ maxLen) (w : World) : Calls Try.prog 14 #[.string s] w fun e w' => e = .returned (.bool true) ∧ Below w.heap.size w w' := by
  unfold maxLen at hs
  by_cases h1 : (1048576 : Int) < s.size
  · go_enter Try.func14, Try.ntmps14
    go_wp2
    go_ret
    exact ⟨rfl, Below.refl _ _⟩
  · by_cases hl : leafB s
    · obtain ⟨h0, h76, h7⟩ := hl
      have A := Lib.hid (fun W => objBytes_spec_leaf s W h0 (by omega) h7)
      have B := Lib.hid (fun W => objBytes_impl_leaf s W h0 (by omega) h7)
      clear h76
      go_enter Try.func14, Try.ntmps14
      go_wp2_with fail
      refine (A.out _).mono ?_
      rintro e w1 ⟨rfl, b1⟩
      go_wp2_with fail
      refine (B.out _).mono ?_
      rintro e w2 ⟨rfl, b2⟩
      go_wp2
      go_ret
      exact ⟨rfl, below_up b1 b2⟩
    · have A := Lib.hid (fun W => objBytes_spec_other s W (by omega) hl)
      have B := Lib.hid (fun W => objBytes_impl_other s W hl)
      clear hl
      go_enter Try.func14, Try.ntmps14
      go_wp2_with fail
      refine (A.out _).mono ?_
      rintro e w1 ⟨rfl, b1⟩
      go_wp2_with fail
      refine (B.out _).mono ?_
      rintro e w2 ⟨rfl, b2⟩
      go_wp2
      go_ret
      exact ⟨rfl, below_up b1 b2⟩

set_option maxRecDepth 100000 in
theorem objBytesLaw_lifted (os : Os) (started : os.Started) (H : Type) (enc : TypeId × Value → H) :
    ReturnsInHanded {} Try.checked os 14 .any (Rows.fnExactObjBytesSpec.pre6 enc Try.prog Try.f14 Rows.fnExactObjBytesRow.domain false) (Rows.fnExactObjBytesSpec.post enc Try.prog Try.f14 false true false false) := by
  refine returnsInHanded_of_change (C := Try.checked) Try.own started (by kernel_rfl) Try.func14
    (ChangeSpec.witness6 (enc := enc) (C := Try.checked) false ⟨#[], #[.string ByteArray.empty], []⟩ 8 (by kernel_rfl) (by kernel_rfl) (by kernel_rfl) (by kernel_rfl)) ?_
  intro W base args ds gs before hval0 hW _ _
  have hval : ∀ (j : Nat) t v, Try.f14.params[j]? = some t → args[j]? = some v → Value.okWide Try.prog W .any base t v := hval0
  have hW2 := hW
  obtain ⟨p, q, hA0, hV, rfl, _, _⟩ := hW
  have hA : DataW.TrodAll enc Try.prog W 0 (fun _ => true) true Try.f14.params.toList args.toList ds p := hA0
  rw [Try.params14] at hA hval
  obtain ⟨v0, d0, rfl, rfl, h0⟩ := trodAll_one hA
  obtain ⟨rfl, rfl⟩ := trodVars_none hV
  clear hA0 hval0
  simp only [List.append_nil] at hW2
  have lt0 : ∀ x ∈ p, x.block < W.heap.size := fun x hx => hW2.lt x (by simp [hx])
  have k0 := fun W2 (hb : Below W.heap.size W W2) => Below.trod Try.laidOut (by kernel_rfl) (of_decide_eq_true (by kernel_rfl)) h0 hb lt0
  obtain ⟨x0, rfl, -, -, wf0⟩ := open_string Try.underlying9 (hval 0 9 v0 rfl rfl) h0
  refine (objBytesLaw_calls x0 wf0 W).mono fun e W2 ⟨he, hb⟩ => ?_
  subst he
  exact ⟨_, rfl, _, _, _, [], _, [], hW2, trodAll_mk1 (shut_bool Try.underlying4 true), trodAll_mk1 (k0 W2 hb), rfl, hb.frame _, fun h => by cases h⟩

theorem objBytesLaw_holds : Rows.FnExactObjBytesSaid :=
  OpenClaim.holds_of_wide 14 Try.f14 rfl rfl rfl rfl rfl rfl rfl ⟨rfl, rfl, rfl, rfl, rfl⟩ rfl rfl rfl rfl rfl (by kernel_rfl) Try.func14 (by kernel_rfl)
    (of_decide_eq_true (by kernel_rfl)) (by unfold Func.isWrapper; rw [if_neg (of_decide_eq_false (by kernel_rfl))]; exact ⟨rfl, rfl⟩)
    (fun os started H enc _ => objBytesLaw_lifted os started H enc)
end Go.Proofs.Ytajkihibineoaaa
