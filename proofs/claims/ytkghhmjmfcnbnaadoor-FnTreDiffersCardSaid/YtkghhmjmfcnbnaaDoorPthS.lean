/- spec's functions of paths, each by a plain one. No condition but a string's own size. -/
import Derived.Test.YtkghhmjmfcnbnaaDoorPth
import Derived.Test.YtkghhmjmfcnbnaaDoorNam
import Derived.Test.YtkghhmjmfcnbnaaDoorStrH
namespace Go.Proofs.YtkghhmjmfcnbnaaDoor
open Go.RowKit

theorem namB_S (s : ByteArray) : namB s = namS s := by
  unfold namB namS namL
  rw [toL_len]; rfl
theorem namS_spec (s : ByteArray) (hs : s.size ≤ maxLen) (w : World) : Calls Tryd.prog 54 #[.string s] w fun e w' => e = .returned (.bool (namS s)) ∧ w = w' := by rw [← namB_S]; exact nam_spec s hs w
theorem namS_impl (s : ByteArray) (hs : s.size ≤ maxLen) (w : World) : Calls Tryd.prog 56 #[.string s] w fun e w' => e = .returned (.bool (namS s)) ∧ w = w' := by rw [← namB_S]; exact nam_impl s hs w
theorem byteB (c : UInt8) : strOfNums [(c.toNat : Int)] = mkB [c] := by simp [strOfNums, mkB]
theorem take_B (s : ByteArray) (k : Nat) (h : k < s.size) : (toL s).take (k + 1) = (toL s).take k ++ [s[k]] := take_snoc s k h
theorem u8_eq {c d : UInt8} (h : c = d) : ((c.toNat : Int) == (d.toNat : Int)) = true := by rw [h]; simp
theorem u8_ne {c d : UInt8} (h : ¬ c = d) : ((c.toNat : Int) == (d.toNat : Int)) = false :=
  beq_eq_false_iff_ne.2 fun e => h (UInt8.toNat_inj.1 (by omega))
theorem cutL_piece (l : By) : ∀ x ∈ cutL l, x.length ≤ l.length := by
  intro x hx
  have h := cutL_sum l
  have : x.length ≤ ((cutL l).map List.length).sum := by
    generalize cutL l = L at hx
    induction L with
    | nil => cases hx
    | cons y L ih =>
      simp only [List.map_cons, List.sum_cons]
      rcases List.mem_cons.1 hx with rfl | hx
      · omega
      · have := ih hx; omega
  have h1 : 1 ≤ (cutL l).length := by have := cutL_ne l; cases h : cutL l <;> simp_all
  omega
theorem cutB_piece {s x : ByteArray} (h : x ∈ cutB s) : x.size ≤ s.size := by
  obtain ⟨y, hy, rfl⟩ := List.mem_map.1 h
  have := cutL_piece _ y hy
  rw [toL_len] at this
  rw [mkB_size]; exact this
theorem cutB_of {s : ByteArray} {L : List ByteArray} {y : ByteArray} (h : cutL (toL s) = L.map toL ++ [toL y]) : cutB s = L ++ [y] := by
  unfold cutB
  rw [h, List.map_append, map_mkB]
  simp [mkB_toL]
theorem empty_yes {s : ByteArray} (h : toL s = []) : s.toList.isEmpty = true := by rw [isEmpty_toL, h]; rfl
theorem empty_no {s : ByteArray} (h : ¬ toL s = []) : s.toList.isEmpty = false := by
  rw [isEmpty_toL]
  cases e : toL s with
  | nil => exact absurd e h
  | cons _ _ => rfl

set_option maxRecDepth 100000 in
set_option maxHeartbeats 400000 in
theorem l1Cut_calls (s : ByteArray) (hs : s.size ≤ 2097160) (w : World) : Calls Tryd.prog 53 #[.string s] w (RetOwn 1 strC 9 (cutB s) w) := by
  obtain ⟨i0, hi, hz0, hz1, hz2⟩ := info_parts Tryd.infoStr
  have hcv := conv1
  go_enter Tryd.func53, Tryd.ntmps53
  go_wp2
  go_loopw [3, 4, 5] (fun v x i wr => ∃ (k : Nat) (L : List ByteArray) (y : ByteArray), k ≤ s.size ∧ i = .int .i64 k ∧ x = .string y ∧ cutL ((toL s).take k) = L.map toL ++ [toL y] ∧ y.size ≤ k ∧ L.length ≤ k ∧ wr.ownsRow w.heap.size 9 1 v L.length (L.flatMap strC) ∧ Below w.heap.size w wr) (fun _ _ i _ => s.size - (intOf i).toNat)
  case atStart => exact ⟨0, [], ByteArray.empty, Nat.zero_le _, rfl, rfl, by simp [cutL, empty_toL], by simp, by simp, World.ownsRow_lit w #[] 0 (Nat.le_refl _) (by simp [maxLen]) rfl, al (below0 w) _⟩
  case round =>
    obtain ⟨k, L, y, hk, rfl, rfl, hc, hy, hL, hown, hnx⟩ := hrel
    have HC := Lib.hid hc
    clear hc
    by_cases hlt : k < s.size
    · have hsn := cutL_snoc s[k] _ _ _ HC.out
      rw [← take_B s k hlt] at hsn
      by_cases hb : s[k] = 47
      · rw [if_pos hb] at hsn
        have HS := Lib.hid hsn
        have hb1 : ((s[k].toNat : Int) == 47) = true := u8_eq hb
        clear hb hsn
        go_wp2_with (at_builtin; refine wpList_append_own _ rfl _ _ 24 rfl w.heap.size 9 i0 _ 1 16 Tryd.underlying24 hi hz0 hz1 hz2 rfl (by decide) _ _ _ rfl (hown.alloc _) ⟨wr.heap.size, 0, none⟩ 1 1 [.string y] rfl rfl (news_new _ #[.string y] _ _ (by simp)) (by intro u hu; simp at hu; subst hu; rfl) (by unfold maxLen; omega) (by omega) (by have := hnx.size; simp; omega) ?_; intro v1 w1 hown1 hgrow1 _)
        have hb2 := app_step hnx hown (al (below0 _) _) hgrow1
        clear hgrow1 hnx hown
        go_wp2
        go_roundw
        case rel => exact ⟨k + 1, L ++ [y], ByteArray.empty, by omega, by go_num, rfl, by rw [HS.out]; simp [empty_toL], by simp, by simp; omega, by simpa [strC] using hown1, hb2⟩
        case measure => simp [intOf]; omega
      · rw [if_neg hb] at hsn
        have HS := Lib.hid hsn
        have hb1 : ((s[k].toNat : Int) == 47) = false := u8_ne hb
        have hsz : (strOfNums [(s[k].toNat : Int)]).size = 1 := strOfNums_size _
        have HZ := Lib.hid hsz
        clear hsz hb hsn
        have hsb : (strOfNums [(s[k].toNat : Int)]).size ≤ 1 := by rw [HZ.out]; omega
        go_wp2
        go_roundw
        case rel => exact ⟨k + 1, L, y ++ strOfNums [(s[k].toNat : Int)], by omega, by go_num, rfl, by rw [HS.out, toL_app, byteB, toL_mkB], by rw [ByteArray.size_append, HZ.out]; omega, by omega, hown.alloc _, al hnx _⟩
        case measure => simp [intOf]; omega
    · have hcb : cutB s = L ++ [y] := cutB_of (by have e := HC.out; rwa [List.take_of_length_le (by rw [toL_len]; omega)] at e)
      have HB := Lib.hid hcb
      clear hcb
      go_wp2_with (at_builtin; refine wpList_append_own _ rfl _ _ 24 rfl w.heap.size 9 i0 _ 1 16 Tryd.underlying24 hi hz0 hz1 hz2 rfl (by decide) _ _ _ rfl (hown.alloc _) ⟨wr.heap.size, 0, none⟩ 1 1 [.string y] rfl rfl (news_new _ #[.string y] _ _ (by simp)) (by intro u hu; simp at hu; subst hu; rfl) (by unfold maxLen; omega) (by omega) (by have := hnx.size; simp; omega) ?_; intro v1 w1 hown1 hgrow1 _)
      have hb2 := app_step hnx hown (al (below0 _) _) hgrow1
      clear hgrow1 hnx hown
      go_ret
      refine ⟨_, rfl, ?_, hb2⟩
      rw [HB.out]
      unfold Own
      simpa [strC] using hown1

/-- the first k pieces are names -/
def AllNam (s : ByteArray) (k : Nat) : Prop := ∀ x ∈ (cutB s).take k, namS x = true
theorem allNam_step {s x : ByteArray} {k : Nat} (hz : (cutB s)[k]? = some x) (h : namS x = true) (hall : AllNam s k) : AllNam s (k + 1) := by
  unfold AllNam
  rw [take_one hz]
  intro y hy
  rcases List.mem_append.1 hy with h1 | h1
  · exact hall y h1
  · simp at h1; subst h1; exact h
theorem pthB_bad {s x : ByteArray} {k : Nat} (hz : (cutB s)[k]? = some x) (h : namS x = false) (h0 : ¬ toL s = []) : pthB s = false := pthL_bad (cutB_get hz) h h0
theorem pthB_end {s : ByteArray} {k : Nat} (h : ¬ k < (cutB s).length) (h0 : ¬ toL s = []) (hall : AllNam s k) : pthB s = decide ((cutB s).length ≤ 3) := by
  unfold AllNam at hall
  rw [List.take_of_length_le (by omega)] at hall
  have e : (cutB s).length = (cutL (toL s)).length := by simp [cutB]
  rw [e]
  refine pthL_end h0 fun x hx => ?_
  have := hall (mkB x) (List.mem_map.2 ⟨x, hx, rfl⟩)
  simpa [namS, toL_mkB] using this
theorem pthB_nil {s : ByteArray} (h : toL s = []) : pthB s = true := by unfold pthB; rw [h]; rfl

set_option maxRecDepth 100000 in
theorem pth_spec (s : ByteArray) (hs : s.size ≤ 2097160) (w : World) : Calls Tryd.prog 23 #[.string s] w fun e w' => e = .returned (.bool (pthB s)) ∧ Below w.heap.size w w' := by
  by_cases h0 : toL s = []
  · rw [pthB_nil h0]
    have hd := empty_yes h0
    clear h0
    go_enter Tryd.func23, Tryd.ntmps23
    go_wp2
    go_ret
    exact ⟨rfl, below0 w⟩
  · by_cases h1 : (12 : Int) < (s.size : Int)
    · rw [pthB_long (by omega)]
      have hd := empty_no h0
      clear h0
      go_enter Tryd.func23, Tryd.ntmps23
      go_wp2
      go_ret
      exact ⟨rfl, below0 w⟩
    · have hd := empty_no h0
      have H0 := Lib.hid h0
      clear h0
      go_enter Tryd.func23, Tryd.ntmps23
      go_wp2_with fail
      refine (l1Cut_calls s hs _).mono ?_
      rintro e w1 ⟨v, rfl, hown, hb⟩
      obtain ⟨A, c, rfl, hc, hlc, hat⟩ := str_at (hown.sl strC_len)
      unfold maxLen at hc
      clear hown
      go_wp2
      go_loopw [4] (fun i wr => ∃ k : Nat, k ≤ (cutB s).length ∧ i = .int .i64 k ∧ AllNam s k ∧ Below w1.heap.size w1 wr) (fun i _ => (cutB s).length - (intOf i).toNat)
      case atStart => exact ⟨0, Nat.zero_le _, rfl, fun x hx => by simp at hx, below0 w1⟩
      case round =>
        obtain ⟨k, hk, rfl, hall, hnx⟩ := hrel
        by_cases hlt : k < (cutB s).length
        · obtain ⟨x, b, off, hz, rfl, hbl, c0⟩ := hat k hlt
          have d0 := (hnx.cell (p := ⟨b, off + k, none⟩) hbl).trans c0
          have hx : x.size ≤ maxLen := by have := cutB_piece (List.mem_of_getElem? hz); unfold maxLen; omega
          by_cases hn : namS x = true
          · have HA := Lib.hid (allNam_step hz hn hall)
            clear hat c0 hz hall
            go_wp2_with fail
            refine (namS_spec x hx _).mono ?_
            rintro e w2 ⟨rfl, rfl⟩
            rw [hn]
            go_wp2
            go_roundw
            case rel => exact ⟨k + 1, by omega, by go_num, HA.out, hnx⟩
            case measure => simp [intOf]; omega
          · have hn' : namS x = false := by simpa using hn
            have HA := Lib.hid (pthB_bad hz hn' H0.out)
            clear hat c0 hz hall hn
            go_wp2_with fail
            refine (namS_spec x hx _).mono ?_
            rintro e w2 ⟨rfl, rfl⟩
            rw [hn']
            go_wp2
            go_ret
            exact ⟨ret_b HA.out.symm, below_up hb hnx⟩
        · have HA := Lib.hid (pthB_end hlt H0.out hall)
          clear hall
          go_wp2
          go_ret
          exact ⟨ret_b (by rw [HA.out]; first | rfl | (simp; done) | (simp; omega)), below_up hb hnx⟩
end Go.Proofs.YtkghhmjmfcnbnaaDoor
