/- spec's TreDiffers: the paths at which two trees have other files. -/
import Derived.Test.YtkghhmjmfcnbnaaDoorDifL
import Derived.Test.YtkghhmjmfcnbnaaDoorNamS
import Derived.Test.YtkghhmjmfcnbnaaDoorTreS
import Derived.StillTailTactics
namespace Go.Proofs.YtkghhmjmfcnbnaaDoor
open Go.RowKit

theorem setB_selL_len (p : TFile → Bool) (f : TFile → ByteArray) (zs : List TFile) (k : Nat) : (setB (selL p f (zs.take k))).length ≤ k := Nat.le_trans (setB_len _) (selL_take p f zs k)
theorem setB_keep {M : List ByteArray} {p : TFile → Bool} {f : TFile → ByteArray} {zs : List TFile} {z : TFile} {k : Nat} (hz : zs[k]? = some z) (h : p z = true) : setB (M ++ selL p f (zs.take (k + 1))) = nameB (setB (M ++ selL p f (zs.take k))) (f z) := by
  rw [selL_keep hz h, ← List.append_assoc, setB_snoc]
theorem setB_drop {M : List ByteArray} {p : TFile → Bool} {f : TFile → ByteArray} {zs : List TFile} {z : TFile} {k : Nat} (hz : zs[k]? = some z) (h : p z = false) : setB (M ++ selL p f (zs.take (k + 1))) = setB (M ++ selL p f (zs.take k)) := by
  rw [selL_drop hz h]
theorem setB_keep0 {p : TFile → Bool} {f : TFile → ByteArray} {zs : List TFile} {z : TFile} {k : Nat} (hz : zs[k]? = some z) (h : p z = true) : setB (selL p f (zs.take (k + 1))) = nameB (setB (selL p f (zs.take k))) (f z) := by
  rw [selL_keep hz h, setB_snoc]
theorem setB_drop0 {p : TFile → Bool} {f : TFile → ByteArray} {zs : List TFile} {z : TFile} {k : Nat} (hz : zs[k]? = some z) (h : p z = false) : setB (selL p f (zs.take (k + 1))) = setB (selL p f (zs.take k)) := by
  rw [selL_drop hz h]
set_option maxRecDepth 100000 in
set_option maxHeartbeats 4000000 in
theorem treDif_spec (u v : Value) (a b : List TFile) (w : World) (hu : Sl 2 fileC w u a) (hv : Sl 2 fileC w v b) (ha : a.length ≤ 1048576) (hb : b.length ≤ 1048576) :
    Calls Tryd.prog 30 #[u, v] w (RetOwn 1 strC 9 (difB a b) w) := by
  obtain ⟨A, c, rfl, hc, hlc, hat⟩ := file_z hu
  obtain ⟨A', c', rfl, hc', hlc', hat'⟩ := file_z hv
  unfold maxLen at hc hc'
  go_enter Tryd.func30, Tryd.ntmps30
  go_wp2
  go_loopw [5, 6] (fun o i wr => ∃ k : Nat, k ≤ a.length ∧ i = .int .i64 k ∧ Own 1 strC 9 w.heap.size wr o (setB (selL (difF b) (·.path) (a.take k))) ∧ Below w.heap.size w wr) (fun _ i _ => a.length - (intOf i).toNat)
  case atStart => exact ⟨0, Nat.zero_le _, rfl, World.ownsRow_lit w #[] 0 (Nat.le_refl _) (by simp [maxLen]) rfl, al (below0 w) _⟩
  case round =>
    obtain ⟨k, hk, rfl, hown, hnx⟩ := hrel
    have hpl := setB_selL_len (difF b) (·.path) a k
    by_cases hlt : k < a.length
    · obtain ⟨z, bb, off, hz, rfl, hbl, c0, c1⟩ := hat k hlt
      have d0 := (hnx.cell (p := ⟨bb, off + k * 2, none⟩) hbl).trans c0
      have d1 := (hnx.cell (p := ⟨bb, off + k * 2 + 1, none⟩) hbl).trans c1
      have HV := Lib.hid (l4Find_calls _ b z.path wr (hv.below hnx) hb)
      have hl : (k : Int) < (a.length : Int) := by omega
      have hbr : bb < wr.heap.size := Nat.lt_of_lt_of_le hbl hnx.size
      have HN := Lib.hid (fun o W ho hb0 => l4Name_calls o (setB (selL (difF b) (·.path) (a.take k))) z.path w.heap.size W ho hb0 (by omega))
      have HO := Lib.hid hown
      rcases findI_cases b z.path with ⟨h1, h2⟩ | ⟨k', f, hz', h1, h2⟩
      · have HZ := Lib.hid (setB_keep0 (f := (·.path)) hz (difF_no h2))
        rw [h1] at HV
        clear hat c0 c1 hz h1 h2 hown
        go_wp2_with fail
        refine HV.out.mono ?_
        rintro e w1 ⟨rfl, rfl⟩
        go_wp2_with fail
        go_quiet (fail)
        have hq := below_drewN (below0 wr) nq
        have g0 := (hq.cell (p := ⟨bb, off + k * 2, none⟩) hbr).trans d0
        generalize wr.drewN nq = w2 at hq g0 ⊢
        go_wp2_with fail
        refine (HN.out _ w2 (HO.out.below hq) (Nat.le_trans hnx.size hq.size)).mono ?_
        rintro e w3 ⟨v3, rfl, own3, b3⟩
        go_wp2
        go_roundw
        case rel => exact ⟨k + 1, by omega, by go_num, by rw [HZ.out]; exact own3, below_up hnx (below_up hq b3)⟩
        case measure => simp [intOf]; omega
      · rw [h1] at HV
        have hk' := (List.getElem?_eq_some_iff.1 hz').1
        have hk2 : (k' : Int) < (b.length : Int) := by omega
        obtain ⟨z', b', off', hz2, rfl, hbl', e0, e1⟩ := hat' k' hk'
        rw [hz'] at hz2
        simp only [Option.some.injEq] at hz2
        subst hz2
        have f1 := (hnx.cell (p := ⟨b', off' + k' * 2 + 1, none⟩) hbl').trans e1
        by_cases hx : f.bytes = z.bytes
        · have HZ := Lib.hid (setB_drop0 (f := (·.path)) hz (difF_eq h2 hx))
          have hbq := beq_of_eq hx
          clear hat hat' c0 c1 e0 e1 hz hz' h1 h2 hown hx
          go_wp2_with fail
          refine HV.out.mono ?_
          rintro e w1 ⟨rfl, rfl⟩
          go_wp2_with fail
          go_quiet (fail)
          have hq := below_drewN (below0 wr) nq
          have g0 := (hq.cell (p := ⟨bb, off + k * 2, none⟩) hbr).trans d0
          generalize wr.drewN nq = w2 at hq g0 ⊢
          go_wp2
          go_roundw
          case rel => exact ⟨k + 1, by omega, by go_num, by rw [HZ.out]; exact HO.out.below hq, below_up hnx hq⟩
          case measure => simp [intOf]; omega
        · have HZ := Lib.hid (setB_keep0 (f := (·.path)) hz (difF_ne h2 hx))
          have hbq := beq_of_ne hx
          clear hat hat' c0 c1 e0 e1 hz hz' h1 h2 hown hx
          go_wp2_with fail
          refine HV.out.mono ?_
          rintro e w1 ⟨rfl, rfl⟩
          go_wp2_with fail
          go_quiet (fail)
          have hq := below_drewN (below0 wr) nq
          have g0 := (hq.cell (p := ⟨bb, off + k * 2, none⟩) hbr).trans d0
          generalize wr.drewN nq = w2 at hq g0 ⊢
          go_wp2_with fail
          refine (HN.out _ w2 (HO.out.below hq) (Nat.le_trans hnx.size hq.size)).mono ?_
          rintro e w3 ⟨v3, rfl, own3, b3⟩
          go_wp2
          go_roundw
          case rel => exact ⟨k + 1, by omega, by go_num, by rw [HZ.out]; exact own3, below_up hnx (below_up hq b3)⟩
          case measure => simp [intOf]; omega
    · obtain rfl : k = a.length := by omega
      rw [List.take_length] at hown
      rename_i u5
      have hB := hnx
      obtain ⟨wo, rfl⟩ : ∃ wo : World, wo = wr := ⟨_, rfl⟩
      have HO := Lib.hid hown
      have hml := Nat.le_trans (setB_len _) (selL_len (difF b) (·.path) a)
      generalize hM : selL (difF b) (·.path) a = M at *
      clear hown
      go_wp2
      go_loopw [5, 8] (fun o i wr => ∃ k : Nat, k ≤ b.length ∧ i = .int .i64 k ∧ Own 1 strC 9 w.heap.size wr o (setB (M ++ selL (newF a) (·.path) (b.take k))) ∧ Below w.heap.size w wr) (fun _ i _ => b.length - (intOf i).toNat)
      case atStart => exact ⟨0, Nat.zero_le _, rfl, by rw [selL_nil, List.append_nil]; exact HO.out, hB⟩
      case round =>
        obtain ⟨k, hk, rfl, hown, hnx⟩ := hrel
        have hpl : (setB (M ++ selL (newF a) (·.path) (b.take k))).length ≤ a.length + k := by
          have h1 := setB_len (M ++ selL (newF a) (·.path) (b.take k))
          have h2 := selL_take (newF a) (·.path) b k
          have h3 : (M ++ selL (newF a) (·.path) (b.take k)).length = M.length + (selL (newF a) (·.path) (b.take k)).length := List.length_append
          have h4 : M.length ≤ a.length := by rw [← hM]; exact selL_len _ _ _
          omega
        by_cases hlt : k < b.length
        · obtain ⟨z, bb, off, hz, rfl, hbl, c0, c1⟩ := hat' k hlt
          have d0 := (hnx.cell (p := ⟨bb, off + k * 2, none⟩) hbl).trans c0
          have HV := Lib.hid (l4Find_calls _ a z.path wr (hu.below hnx) ha)
          have HN := Lib.hid (fun o W ho hb0 => l4Name_calls o (setB (M ++ selL (newF a) (·.path) (b.take k))) z.path w.heap.size W ho hb0 (by omega))
          have HO := Lib.hid hown
          rcases findI_cases a z.path with ⟨h1, h2⟩ | ⟨k', f, hz', h1, h2⟩
          · have HZ := Lib.hid (setB_keep (M := M) (f := (·.path)) hz (newF_no h2))
            rw [h1] at HV
            clear hat hat' c0 c1 hz h1 h2 hown
            go_wp2_with fail
            refine HV.out.mono ?_
            rintro e w1 ⟨rfl, rfl⟩
            go_wp2_with fail
            refine (HN.out _ wr HO.out hnx.size).mono ?_
            rintro e w3 ⟨v3, rfl, own3, b3⟩
            go_wp2
            go_roundw
            case rel => exact ⟨k + 1, by omega, by go_num, by rw [HZ.out]; exact own3, below_up hnx b3⟩
            case measure => simp [intOf]; omega
          · have HZ := Lib.hid (setB_drop (M := M) (f := (·.path)) hz (newF_yes h2))
            rw [h1] at HV
            clear hat hat' c0 c1 hz h1 h2 hown hz'
            go_wp2_with fail
            refine HV.out.mono ?_
            rintro e w1 ⟨rfl, rfl⟩
            go_wp2
            go_roundw
            case rel => exact ⟨k + 1, by omega, by go_num, by rw [HZ.out]; exact HO.out, hnx⟩
            case measure => simp [intOf]; omega
        · obtain rfl : k = b.length := by omega
          rw [List.take_length] at hown
          have HO := Lib.hid hown
          clear hown
          go_wp2
          go_ret
          refine ⟨_, rfl, ?_, hnx⟩
          have h5 := HO.out
          rw [← hM] at h5
          exact h5
end Go.Proofs.YtkghhmjmfcnbnaaDoor
