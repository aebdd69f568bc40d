/- spec's TreNames: the names right behind a path. -/
import Derived.Test.YtkghhmjmfcnbnaaDoorDifL
import Derived.Test.YtkghhmjmfcnbnaaDoorDifS
import Derived.Test.YtkghhmjmfcnbnaaDoorNamS
import Derived.Test.YtkghhmjmfcnbnaaDoorTreS
import Derived.Test.YtkghhmjmfcnbnaaDoorPthU
namespace Go.Proofs.YtkghhmjmfcnbnaaDoor
open Go.RowKit

set_option maxRecDepth 100000 in
set_option maxHeartbeats 4000000 in
theorem names_spec (u : Value) (zs : List TFile) (q : ByteArray) (w : World) (hu : Sl 2 fileC w u zs) (hf : fileFine zs) (hn : zs.length ≤ 1048576) (hq : q.size ≤ 1048576) :
    Calls Tryd.prog 9 #[u, .string q] w (RetOwn 1 strC 9 (namesB q zs) w) := by
  obtain ⟨A, c, rfl, hc, hlc, hat⟩ := file_z hu
  unfold maxLen at hc
  go_enter Tryd.func9, Tryd.ntmps9
  go_wp2
  go_loopw [5, 6] (fun o i wr => ∃ k : Nat, k ≤ zs.length ∧ i = .int .i64 k ∧ Own 1 strC 9 w.heap.size wr o (setB (selL (behF q) (fun z => firstB (restF q z.path)) (zs.take k))) ∧ Below w.heap.size w wr) (fun _ i _ => zs.length - (intOf i).toNat)
  case atStart => exact ⟨0, Nat.zero_le _, rfl, World.ownsRow_lit w #[] 0 (Nat.le_refl _) (by simp [maxLen]) rfl, al (below0 w) _⟩
  case round =>
    obtain ⟨k, hk, rfl, hown, hnx⟩ := hrel
    have hpl := setB_selL_len (behF q) (fun z => firstB (restF q z.path)) zs k
    by_cases hlt : k < zs.length
    · obtain ⟨z, b, off, hz, rfl, hbl, c0, c1⟩ := hat k hlt
      have hbr : b < wr.heap.size := Nat.lt_of_lt_of_le hbl hnx.size
      have d0 := (hnx.cell (p := ⟨b, off + k * 2, none⟩) hbl).trans c0
      obtain ⟨hz1, -⟩ := fileFine_get hf hz
      have HU := Lib.hid (fun W => und_spec q z.path (by omega) (by omega) W)
      have hl : (k : Int) < (zs.length : Int) := by omega
      have HO := Lib.hid hown
      clear hown
      cases hx : undB q z.path
      · have HZ := Lib.hid (setB_drop0 (f := fun z => firstB (restF q z.path)) hz (behF_no1 hx))
        clear hat c0 c1 hz
        go_wp2_with fail
        refine (HU.out _).mono ?_
        rintro e w1 ⟨rfl, b1⟩
        rw [hx]
        go_wp2
        go_roundw
        case rel => exact ⟨k + 1, by omega, by go_num, by rw [HZ.out]; exact HO.out.below b1, below_up hnx b1⟩
        case measure => simp [intOf]; omega
      · by_cases hy : q = z.path
        · have HZ := Lib.hid (setB_drop0 (f := fun z => firstB (restF q z.path)) hz (behF_no2 hy))
          have hbq := beq_of_eq hy
          clear hat c0 c1 hz hy
          go_wp2_with fail
          refine (HU.out _).mono ?_
          rintro e w1 ⟨rfl, b1⟩
          rw [hx]
          have d1 := (b1.cell (p := ⟨b, off + k * 2, none⟩) hbr).trans d0
          clear d0
          go_wp2
          go_roundw
          case rel => exact ⟨k + 1, by omega, by go_num, by rw [HZ.out]; exact HO.out.below b1, below_up hnx b1⟩
          case measure => simp [intOf]; omega
        · have HZ := Lib.hid (setB_keep0 (f := fun z => firstB (restF q z.path)) hz (behF_yes hx hy))
          have hbq := beq_of_ne hy
          have HN := Lib.hid (fun o W ho hb0 => l4Name_calls o (setB (selL (behF q) (fun z => firstB (restF q z.path)) (zs.take k))) (firstB (restF q z.path)) w.heap.size W ho hb0 (by omega))
          have HF := Lib.hid (fun W => first_spec (restF q z.path) (by have := restF_size q z.path; omega) W)
          by_cases h0 : toL q = []
          · have hr := restF_nil (p := z.path) h0
            have t1 := empty_yes h0
            rw [hr] at HF HN HZ
            clear hat c0 c1 hz hy h0 hr
            go_wp2_with fail
            refine (HU.out _).mono ?_
            rintro e w1 ⟨rfl, b1⟩
            rw [hx]
            have d1 := (b1.cell (p := ⟨b, off + k * 2, none⟩) hbr).trans d0
            clear d0
            go_wp2_with fail
            refine (HF.out _).mono ?_
            rintro e w2 ⟨rfl, b2⟩
            have b12 := below_up b1 b2
            go_wp2_with fail
            refine (HN.out _ w2 (HO.out.below b12) (Nat.le_trans hnx.size b12.size)).mono ?_
            rintro e w3 ⟨v3, rfl, own3, b3⟩
            go_wp2
            go_roundw
            case rel => exact ⟨k + 1, by omega, by go_num, by rw [HZ.out]; exact own3, below_up hnx (below_up b12 b3)⟩
            case measure => simp [intOf]; omega
          · have hr := restF_yes (p := z.path) h0
            have t1 := empty_no h0
            have hlong := und_long hx h0 hy
            rw [hr] at HF HN HZ
            clear hat c0 c1 hz hy h0 hr
            go_wp2_with fail
            refine (HU.out _).mono ?_
            rintro e w1 ⟨rfl, b1⟩
            rw [hx]
            have d1 := (b1.cell (p := ⟨b, off + k * 2, none⟩) hbr).trans d0
            clear d0
            go_wp2_with fail
            refine (HF.out _).mono ?_
            rintro e w2 ⟨rfl, b2⟩
            have b12 := below_up b1 b2
            go_wp2_with fail
            refine (HN.out _ w2 (HO.out.below b12) (Nat.le_trans hnx.size b12.size)).mono ?_
            rintro e w3 ⟨v3, rfl, own3, b3⟩
            go_wp2
            go_roundw
            case rel => exact ⟨k + 1, by omega, by go_num, by rw [HZ.out]; exact own3, below_up hnx (below_up b12 b3)⟩
            case measure => simp [intOf]; omega
    · rw [List.take_of_length_le (by omega)] at hown
      have HO := Lib.hid hown
      clear hat hown
      go_wp2
      go_ret
      exact ⟨_, rfl, HO.out, hnx⟩
end Go.Proofs.YtkghhmjmfcnbnaaDoor
