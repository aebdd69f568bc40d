/- impl's PthUnder, PthFirst, PthRest, PthJoin, PthParts, each by a plain function. -/
import Derived.Test.YtkghhmjmfcnbnaaDoorPthI
import Derived.Test.YtkghhmjmfcnbnaaDoorPthU
namespace Go.Proofs.YtkghhmjmfcnbnaaDoor
open Go.RowKit

theorem prefix_calls (a b : ByteArray) (w : World) : Calls Tryd.prog 76 #[.string b, .string (a ++ ⟨#[47]⟩)] w fun e w' => e = .returned (.bool (onB a b)) ∧ w = w' := by
  have hc := Go.Proofs.Tryd.strings_HasPrefix b (a ++ ⟨#[47]⟩) w
  refine Calls.mono hc ?_
  rintro e w' ⟨rfl, rfl⟩
  refine ⟨?_, rfl⟩
  have : Lib.hasPrefix b.data.toList (a ++ ⟨#[47]⟩).data.toList = onB a b := by
    unfold Lib.hasPrefix onB
    show (toL (a ++ ⟨#[47]⟩)).isPrefixOf (toL b) = _
    rw [toL_app]; rfl
  rw [this]
/-- a call of strings.Cut at a stroke -/
def CutPost (s : ByteArray) (w : World) (e : Ending) (w' : World) : Prop := ∃ x : Bool, e = .returned (.tuple #[.string (mkB (headL (toL s))), .string (mkB (afterL (toL s))), .bool x]) ∧ Below w.heap.size w w'
theorem cut_calls (s : ByteArray) (hs : s.size ≤ 2097160) (w : World) (hm : MaxOk w) : Calls Tryd.prog 71 #[.string s, .string ⟨#[47]⟩] w (CutPost s w) := by
  obtain ⟨m, hm⟩ := hm
  refine (Go.Proofs.Tryd.strings_Cut s ⟨#[47]⟩ m w (by omega) hm).mono ?_
  rintro e w' ⟨rfl, n, rfl⟩
  refine ⟨(Lib.cut s.data.toList (ByteArray.mk #[47]).data.toList).2.2, ?_, below_drewN (below0 w) n⟩
  have h := cut_head (toL s)
  have e1 : (Lib.cut s.data.toList (ByteArray.mk #[47]).data.toList).1 = headL (toL s) := h.1
  have e2 : (Lib.cut s.data.toList (ByteArray.mk #[47]).data.toList).2.1 = afterL (toL s) := h.2
  rw [e1, e2]
  rfl

set_option maxRecDepth 100000 in
set_option maxHeartbeats 1000000 in
theorem und_impl (a b : ByteArray) (ha : a.size ≤ 2097160) (hb : b.size ≤ 2097160) (w : World) (hm : MaxOk w) : Calls Tryd.prog 52 #[.string a, .string b] w fun e w' => e = .returned (.bool (undB a b)) ∧ Below w.heap.size w w' := by
  have HP := Lib.hid (fun W => prefix_calls a b W)
  have HA := Lib.hid (fun W => pth_impl a ha W)
  have HB := Lib.hid (fun W => pth_impl b hb W)
  cases h1 : pthB a
  · rw [undB_no1 h1]
    go_enter Tryd.func52, Tryd.ntmps52
    go_wp2_with fail
    refine (HA.out _ hm).mono ?_
    rintro e w1 ⟨rfl, b1⟩
    rw [h1]
    go_wp2
    go_ret
    exact ⟨rfl, b1⟩
  · cases h2 : pthB b
    · rw [undB_no2 h2]
      go_enter Tryd.func52, Tryd.ntmps52
      go_wp2_with fail
      refine (HA.out _ hm).mono ?_
      rintro e w1 ⟨rfl, b1⟩
      rw [h1]
      go_wp2_with fail
      refine (HB.out _ (hm.below b1)).mono ?_
      rintro e w2 ⟨rfl, b2⟩
      rw [h2]
      go_wp2
      go_ret
      exact ⟨rfl, below_up b1 b2⟩
    · have hu := undB_eq h1 h2
      by_cases h3 : toL a = []
      · have hd := empty_yes h3
        have e : undB a b = true := by rw [hu, h3]; rfl
        rw [e]
        clear hu h3 e
        go_enter Tryd.func52, Tryd.ntmps52
        go_wp2_with fail
        refine (HA.out _ hm).mono ?_
        rintro e w1 ⟨rfl, b1⟩
        rw [h1]
        go_wp2_with fail
        refine (HB.out _ (hm.below b1)).mono ?_
        rintro e w2 ⟨rfl, b2⟩
        rw [h2]
        go_wp2
        go_ret
        exact ⟨rfl, below_up b1 b2⟩
      · have hd := empty_no h3
        have hd3 : (toL a).isEmpty = false := by rw [← isEmpty_toL]; exact hd
        by_cases h4 : toL a = toL b
        · have hq := str_beq_yes h4
          have e : undB a b = true := by rw [hu, h4]; simp
          rw [e]
          clear hu h3 hd3 h4 e
          go_enter Tryd.func52, Tryd.ntmps52
          go_wp2_with fail
          refine (HA.out _ hm).mono ?_
          rintro e w1 ⟨rfl, b1⟩
          rw [h1]
          go_wp2_with fail
          refine (HB.out _ (hm.below b1)).mono ?_
          rintro e w2 ⟨rfl, b2⟩
          rw [h2]
          go_wp2
          go_ret
          exact ⟨rfl, below_up b1 b2⟩
        · have hq := str_beq_no h4
          have e : undB a b = onB a b := by rw [hu, hd3]; simp [h4]
          rw [e]
          clear hu h3 hd3 h4 e
          go_enter Tryd.func52, Tryd.ntmps52
          go_wp2_with fail
          refine (HA.out _ hm).mono ?_
          rintro e w1 ⟨rfl, b1⟩
          rw [h1]
          go_wp2_with fail
          refine (HB.out _ (hm.below b1)).mono ?_
          rintro e w2 ⟨rfl, b2⟩
          rw [h2]
          go_wp2_with fail
          refine (HP.out _).mono ?_
          rintro e w3 ⟨rfl, rfl⟩
          go_wp2
          go_ret
          exact ⟨rfl, below_up b1 b2⟩

set_option maxRecDepth 100000 in
theorem first_impl (s : ByteArray) (hs : s.size ≤ 2097160) (w : World) (hm : MaxOk w) : Calls Tryd.prog 45 #[.string s] w fun e w' => e = .returned (.string (firstB s)) ∧ Below w.heap.size w w' := by
  have HC := Lib.hid (fun W => cut_calls s hs W)
  cases h1 : pthB s
  · have e : firstB s = ByteArray.empty := by unfold firstB; rw [h1]; rfl
    rw [e]
    clear e
    go_enter Tryd.func45, Tryd.ntmps45
    go_wp2_with fail
    refine (pth_impl s hs _ hm).mono ?_
    rintro e w1 ⟨rfl, b1⟩
    rw [h1]
    go_wp2
    go_ret
    exact ⟨rfl, b1⟩
  · have e : firstB s = mkB (headL (toL s)) := by unfold firstB; rw [h1]; rfl
    rw [e]
    clear e
    go_enter Tryd.func45, Tryd.ntmps45
    go_wp2_with fail
    refine (pth_impl s hs _ hm).mono ?_
    rintro e w1 ⟨rfl, b1⟩
    rw [h1]
    go_wp2_with fail
    refine (HC.out _ (hm.below b1)).mono ?_
    rintro e w2 ⟨x, rfl, b2⟩
    go_wp2
    go_ret
    exact ⟨rfl, below_up b1 b2⟩
set_option maxRecDepth 100000 in
set_option maxHeartbeats 1000000 in
theorem join_impl1 (a b : ByteArray) (ha : a.size ≤ 1048576) (hb : b.size ≤ 1048576) (ea : toL a = []) (eb : ¬ toL b = []) (w : World) (hm : MaxOk w) : Calls Tryd.prog 26 #[.string a, .string b] w (JoinPost a b w) := by
  have da := empty_yes ea
  have db := empty_no eb
  have HE : Hid (ontoB a b = b) := onto_1 ea
  clear ea eb
  have HP := Lib.hid (fun W => pth_impl b (by omega) W)
  go_enter Tryd.func26, Tryd.ntmps26
  go_wp2_with fail
  refine (pth_impl a (by omega) _ hm).mono ?_
  rintro e w1 ⟨rfl, b1⟩
  cases pa : pthB a
  · have J := Lib.hid (join_no1 (b := b) pa)
    go_wp2
    go_ret
    exact ⟨ret_str J.out.symm, b1⟩
  · go_wp2_with fail
    refine (pth_impl b (by omega) _ (hm.below b1)).mono ?_
    rintro e w2 ⟨rfl, b2⟩
    cases pb : pthB b
    · have J := Lib.hid (join_no2 pa pb)
      go_wp2
      go_ret
      exact ⟨ret_str J.out.symm, below_up b1 b2⟩
    · go_wp2_with fail
      refine (HP.out _ (hm.below (below_up b1 b2))).mono ?_
      rintro e w3 ⟨rfl, b3⟩
      cases po : pthB b
      · have J := Lib.hid (join_no3 pa pb (by rw [HE.out]; exact po))
        go_wp2
        go_ret
        exact ⟨ret_str J.out.symm, below_up b1 (below_up b2 b3)⟩
      · have J : Hid (joinB a b = b) := (join_yes pa pb (by rw [HE.out]; exact po)).trans HE.out
        go_wp2
        go_ret
        exact ⟨ret_str J.out.symm, below_up b1 (below_up b2 b3)⟩
set_option maxRecDepth 100000 in
set_option maxHeartbeats 1000000 in
theorem join_impl2 (a b : ByteArray) (ha : a.size ≤ 1048576) (hb : b.size ≤ 1048576) (ea : ¬ toL a = []) (eb : toL b = []) (w : World) (hm : MaxOk w) : Calls Tryd.prog 26 #[.string a, .string b] w (JoinPost a b w) := by
  have da := empty_no ea
  have db := empty_yes eb
  have HE : Hid (ontoB a b = a) := onto_2 ea eb
  clear ea eb
  have HP := Lib.hid (fun W => pth_impl a (by omega) W)
  go_enter Tryd.func26, Tryd.ntmps26
  go_wp2_with fail
  refine (pth_impl a (by omega) _ hm).mono ?_
  rintro e w1 ⟨rfl, b1⟩
  cases pa : pthB a
  · have J := Lib.hid (join_no1 (b := b) pa)
    go_wp2
    go_ret
    exact ⟨ret_str J.out.symm, b1⟩
  · go_wp2_with fail
    refine (pth_impl b (by omega) _ (hm.below b1)).mono ?_
    rintro e w2 ⟨rfl, b2⟩
    cases pb : pthB b
    · have J := Lib.hid (join_no2 pa pb)
      go_wp2
      go_ret
      exact ⟨ret_str J.out.symm, below_up b1 b2⟩
    · go_wp2_with fail
      refine (HP.out _ (hm.below (below_up b1 b2))).mono ?_
      rintro e w3 ⟨rfl, b3⟩
      cases po : pthB a
      · have J := Lib.hid (join_no3 pa pb (by rw [HE.out]; exact po))
        go_wp2
        go_ret
        exact ⟨ret_str J.out.symm, below_up b1 (below_up b2 b3)⟩
      · have J : Hid (joinB a b = a) := (join_yes pa pb (by rw [HE.out]; exact po)).trans HE.out
        go_wp2
        go_ret
        exact ⟨ret_str J.out.symm, below_up b1 (below_up b2 b3)⟩
set_option maxRecDepth 100000 in
set_option maxHeartbeats 1000000 in
theorem join_impl3 (a b : ByteArray) (ha : a.size ≤ 1048576) (hb : b.size ≤ 1048576) (ea : ¬ toL a = []) (eb : ¬ toL b = []) (w : World) (hm : MaxOk w) : Calls Tryd.prog 26 #[.string a, .string b] w (JoinPost a b w) := by
  have da := empty_no ea
  have db := empty_no eb
  have HE : Hid (ontoB a b = a ++ ⟨#[47]⟩ ++ b) := onto_3 ea eb
  have hz : (a ++ ⟨#[47]⟩ ++ b).size ≤ 2097160 := by rw [← HE.out]; have := onto_size a b; omega
  clear ea eb
  have HP := Lib.hid (fun W => pth_impl (a ++ ⟨#[47]⟩ ++ b) (by exact hz) W)
  go_enter Tryd.func26, Tryd.ntmps26
  go_wp2_with fail
  refine (pth_impl a (by omega) _ hm).mono ?_
  rintro e w1 ⟨rfl, b1⟩
  cases pa : pthB a
  · have J := Lib.hid (join_no1 (b := b) pa)
    go_wp2
    go_ret
    exact ⟨ret_str J.out.symm, b1⟩
  · go_wp2_with fail
    refine (pth_impl b (by omega) _ (hm.below b1)).mono ?_
    rintro e w2 ⟨rfl, b2⟩
    cases pb : pthB b
    · have J := Lib.hid (join_no2 pa pb)
      go_wp2
      go_ret
      exact ⟨ret_str J.out.symm, below_up b1 b2⟩
    · go_wp2_with fail
      refine (HP.out _ (hm.below (below_up b1 b2))).mono ?_
      rintro e w3 ⟨rfl, b3⟩
      cases po : pthB (a ++ ⟨#[47]⟩ ++ b)
      · have J := Lib.hid (join_no3 pa pb (by rw [HE.out]; exact po))
        go_wp2
        go_ret
        exact ⟨ret_str J.out.symm, below_up b1 (below_up b2 b3)⟩
      · have J : Hid (joinB a b = (a ++ ⟨#[47]⟩ ++ b)) := (join_yes pa pb (by rw [HE.out]; exact po)).trans HE.out
        go_wp2
        go_ret
        exact ⟨ret_str J.out.symm, below_up b1 (below_up b2 b3)⟩
set_option maxRecDepth 100000 in
set_option maxHeartbeats 1000000 in
theorem join_impl4 (a b : ByteArray) (ha : a.size ≤ 1048576) (hb : b.size ≤ 1048576) (ea : toL a = []) (eb : toL b = []) (w : World) (hm : MaxOk w) : Calls Tryd.prog 26 #[.string a, .string b] w (JoinPost a b w) := by
  have HE : Hid (ontoB a b = b) := onto_1 ea
  obtain rfl := toL_nil ea
  obtain rfl := toL_nil eb
  have da : ByteArray.empty.toList.isEmpty = true := empty_yes rfl
  clear ea eb
  have J : Hid (joinB ByteArray.empty ByteArray.empty = ByteArray.empty) := rfl
  have pa : pthB ByteArray.empty = true := rfl
  go_enter Tryd.func26, Tryd.ntmps26
  go_wp2_with fail
  refine (pth_impl _ (by decide) _ hm).mono ?_
  rintro e w1 ⟨rfl, b1⟩
  rw [pa]
  go_wp2_with fail
  refine (pth_impl _ (by decide) _ (hm.below b1)).mono ?_
  rintro e w2 ⟨rfl, b2⟩
  rw [pa]
  go_wp2_with fail
  refine (pth_impl _ (by decide) _ (hm.below (below_up b1 b2))).mono ?_
  rintro e w3 ⟨rfl, b3⟩
  rw [pa]
  go_wp2
  go_ret
  exact ⟨ret_str J.out.symm, below_up b1 (below_up b2 b3)⟩
theorem join_impl (a b : ByteArray) (ha : a.size ≤ 1048576) (hb : b.size ≤ 1048576) (w : World) (hm : MaxOk w) : Calls Tryd.prog 26 #[.string a, .string b] w (JoinPost a b w) := by
  by_cases ea : toL a = []
  · by_cases eb : toL b = []
    · exact join_impl4 a b ha hb ea eb w hm
    · exact join_impl1 a b ha hb ea eb w hm
  · by_cases eb : toL b = []
    · exact join_impl2 a b ha hb ea eb w hm
    · exact join_impl3 a b ha hb ea eb w hm
/-- a call that hands back nil or a row of its own -/
theorem own_nil (w : World) : Own 1 strC 9 w.heap.size w (.slice none 0 0) ([] : List ByteArray) := World.ownsRow_nil _ _ _ _
end Go.Proofs.YtkghhmjmfcnbnaaDoor
