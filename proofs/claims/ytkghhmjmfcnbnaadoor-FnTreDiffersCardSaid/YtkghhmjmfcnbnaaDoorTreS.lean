/- spec's TreOk, by a plain function. -/
import Derived.Test.YtkghhmjmfcnbnaaDoorTreL
import Derived.Test.YtkghhmjmfcnbnaaDoorPthU
import Derived.BigQuiet
import Derived.IntWalk
namespace Go.Proofs.YtkghhmjmfcnbnaaDoor
open Go.RowKit

/-- files whose paths are not too long for the walks -/
def fileFine (zs : List TFile) : Prop := ∀ z ∈ zs, z.path.size ≤ 1048576 ∧ z.bytes.size ≤ maxLen
theorem fileFine_get {zs : List TFile} {z : TFile} {k : Nat} (h : fileFine zs) (hz : zs[k]? = some z) : z.path.size ≤ 1048576 ∧ z.bytes.size ≤ maxLen := h z (List.mem_of_getElem? hz)
theorem file_z {w : World} {v : Value} {zs : List TFile} (h : Sl 2 fileC w v zs) : ∃ A c, v = .slice A zs.length c ∧ c ≤ maxLen ∧ zs.length ≤ c ∧
    ∀ k, k < zs.length → ∃ (z : TFile) (b off : Nat), zs[k]? = some z ∧ A = some ⟨b, off, none⟩ ∧ b < w.heap.size ∧ w.cell? ⟨b, off + k * 2, none⟩ = some (.string z.path) ∧ w.cell? ⟨b, off + k * 2 + 1, none⟩ = some (.string z.bytes) := by
  obtain ⟨A, c, h1, h2, h3, h4⟩ := file_at h
  exact ⟨A, c, h1, h2, h3, fun k hk => by obtain ⟨p, q, b, off, h⟩ := h4 k hk; exact ⟨⟨p, q⟩, b, off, h⟩⟩
theorem fileB_no1 {z : TFile} (h : toL z.path = []) : fileB z = false := by unfold fileB; rw [h]; rfl
theorem fileB_no2 {z : TFile} (h : pthB z.path = false) : fileB z = false := by unfold fileB; rw [h]; simp
theorem fileB_no3 {z : TFile} (h : (6 : Int) < z.bytes.size) : fileB z = false := by
  have : decide (z.bytes.size ≤ 6) = false := by simp; omega
  unfold fileB; rw [this]; simp
theorem fileB_yes {z : TFile} (h1 : ¬ toL z.path = []) (h2 : pthB z.path = true) (h3 : ¬ (6 : Int) < z.bytes.size) : fileB z = true := by
  have e1 : (toL z.path).isEmpty = false := by rw [← isEmpty_toL]; exact empty_no h1
  have e2 : decide (z.bytes.size ≤ 6) = true := by simp; omega
  unfold fileB; rw [e1, h2, e2]; rfl
theorem prevB_zero (zs : List TFile) (z : TFile) : prevB zs 0 z = true := rfl
theorem prevB_get {zs : List TFile} {y z : TFile} {k : Nat} (hk : 0 < k) (hy : zs[k - 1]? = some y) : prevB zs k z = Op.bytesLess y.path.toList z.path.toList := by
  obtain ⟨j, rfl⟩ : ∃ j, k = j + 1 := ⟨k - 1, by omega⟩
  simp only [Nat.add_sub_cancel] at hy
  simp only [prevB, hy]
  rw [toL_toList, toL_toList]
theorem and_no1 {a b : Bool} (h : a = false) : (a && b) = false := by rw [h]; rfl
theorem and_no2 {a b : Bool} (h : b = false) : (a && b) = false := by rw [h]; simp
theorem and_yes {a b : Bool} (h : a = true) (k : b = true) : (a && b) = true := by rw [h, k]; rfl
theorem goodT_next {zs : List TFile} {z : TFile} {k : Nat} (hz : zs[k]? = some z) (h : goodT zs k = true) (hf : fileB z = true) (hp : prevB zs k z = true) : goodT zs (k + 1) = true := by rw [goodT_step hz, h, hf, hp]; rfl

/-- the region of the first loop is walked with what it needs at hand: here the call of PthOk alone -/
def TreRel (zs : List TFile) (W w : World) (i : Value) : Prop := ∃ k : Nat, k ≤ zs.length ∧ i = .int .i64 k ∧ goodT zs k = true ∧ Below W.heap.size W w
def TreRel2 (zs : List TFile) (W w : World) (i : Value) : Prop := ∃ k : Nat, 1 ≤ k ∧ (k ≤ zs.length ∨ k = 1) ∧ i = .int .i64 k ∧ adjT zs k = true ∧ Below W.heap.size W w
set_option maxRecDepth 100000 in
set_option maxHeartbeats 4000000 in
theorem tre_spec (v : Value) (zs : List TFile) (w : World) (hv : Sl 2 fileC w v zs) (hf : fileFine zs) :
    Calls Tryd.prog 22 #[v] w fun e w' => e = .returned (.bool (treB zs)) ∧ Below w.heap.size w w' := by
  obtain ⟨A, c, rfl, hc, hlc, hat⟩ := file_z hv
  unfold maxLen at hc
  by_cases h60 : (60 : Int) < zs.length
  · rw [treB_long (by omega)]
    go_enter Tryd.func22, Tryd.ntmps22
    go_wp2
    go_ret
    exact ⟨rfl, below0 w⟩
  · go_enter Tryd.func22, Tryd.ntmps22
    go_wp2
    go_loopw [3] (fun i wr => TreRel zs w wr i) (fun i _ => zs.length - (intOf i).toNat)
    case atStart => exact ⟨0, Nat.zero_le _, rfl, rfl, below0 w⟩
    case round =>
      obtain ⟨k, hk, rfl, hall, hnx⟩ := hrel
      by_cases hlt : k < zs.length
      · obtain ⟨z, b, off, hz, rfl, hb, c0, c1⟩ := hat k hlt
        have d0 := (hnx.cell (p := ⟨b, off + k * 2, none⟩) hb).trans c0
        have d1 := (hnx.cell (p := ⟨b, off + k * 2 + 1, none⟩) hb).trans c1
        obtain ⟨hz1, hz2⟩ := fileFine_get hf hz
        have HP := Lib.hid (fun W => pth_spec z.path (by omega) W)
        have h0 : (0 : Int) ≤ (k : Int) := Int.natCast_nonneg _
        have hl : (k : Int) < (zs.length : Int) := by omega
        unfold maxLen at hz2
        by_cases e1 : toL z.path = []
        · have HZ := Lib.hid (treB_bad1 hz (and_no1 (b := prevB zs k z) (fileB_no1 e1)))
          have t1 := empty_yes e1
          clear hat c0 c1 hz hall e1
          go_wp2_with fail
          refine wp_region_bel (by kernel_rfl) (by kernel_rfl) ?_
          have q0 := fun x : Bel wr => Bel.cell d0 x
          have q1 := fun x : Bel wr => Bel.cell d1 x
          repeat (go_big_quiet_step ((go_at_call 23; exact bel_call _ (HP.out _))))
          refine wpQuiet_nil ?_
          intro _ hw'; obtain ⟨x, hw''⟩ := hw'; subst hw''
          have hx := x.h
          generalize x.w = w2 at hx ⊢
          clear q0 q1 x
          go_wp2
          go_ret
          exact ⟨ret_b HZ.out.symm, below_up hnx hx⟩
        · have t1 := empty_no e1
          cases e2 : pthB z.path
          · have HZ := Lib.hid (treB_bad1 hz (and_no1 (b := prevB zs k z) (fileB_no2 e2)))
            clear hat c0 c1 hz hall e1
            go_wp2_with fail
            refine wp_region_bel (by kernel_rfl) (by kernel_rfl) ?_
            have q0 := fun x : Bel wr => Bel.cell d0 x
            have q1 := fun x : Bel wr => Bel.cell d1 x
            repeat (go_big_quiet_step ((go_at_call 23; exact bel_call _ (HP.out _))))
            refine wpQuiet_nil ?_
            intro _ hw'; obtain ⟨x, hw''⟩ := hw'; subst hw''
            have hx := x.h
            generalize x.w = w2 at hx ⊢
            clear q0 q1 x
            go_wp2
            go_ret
            exact ⟨ret_b HZ.out.symm, below_up hnx hx⟩
          · by_cases e3 : (6 : Int) < z.bytes.size
            · have HZ := Lib.hid (treB_bad1 hz (and_no1 (b := prevB zs k z) (fileB_no3 e3)))
              clear hat c0 c1 hz hall e1
              go_wp2_with fail
              refine wp_region_bel (by kernel_rfl) (by kernel_rfl) ?_
              have q0 := fun x : Bel wr => Bel.cell d0 x
              have q1 := fun x : Bel wr => Bel.cell d1 x
              repeat (go_big_quiet_step ((go_at_call 23; exact bel_call _ (HP.out _))))
              refine wpQuiet_nil ?_
              intro _ hw'; obtain ⟨x, hw''⟩ := hw'; subst hw''
              have hx := x.h
              generalize x.w = w2 at hx ⊢
              clear q0 q1 x
              go_wp2
              go_ret
              exact ⟨ret_b HZ.out.symm, below_up hnx hx⟩
            · have hfb := fileB_yes e1 e2 e3
              have i3 : decide ((6 : Int) < (z.bytes.size : Int)) = false := decide_eq_false e3
              by_cases e4 : 0 < k
              · obtain ⟨y, b', off', hy, e5, -, f0, -⟩ := hat (k - 1) (by omega)
                simp only [Option.some.injEq, Addr.mk.injEq, and_true] at e5
                obtain ⟨rfl, rfl⟩ := e5
                have g0 := (hnx.cell (p := ⟨b, off + (k - 1) * 2, none⟩) hb).trans f0
                have hpv := prevB_get (z := z) e4 hy
                have i4 : (0 : Int) < (k : Int) := by omega
                have i9 : decide ((0 : Int) < (k : Int)) = true := decide_eq_true i4
                have i5 : (0 : Int) ≤ (k : Int) - 1 := by omega
                have i6 : (k : Int) - 1 < (zs.length : Int) := by omega
                have i7 : IntKind.i64.wrap ((k : Int) - 1) = (k : Int) - 1 := IntWalk.i64_in _ (by omega)
                have i8 : ((k : Int) - 1).toNat = k - 1 := by omega
                cases e6 : Op.bytesLess y.path.toList z.path.toList
                · have HZ := Lib.hid (treB_bad1 hz (and_no2 (a := fileB z) (hpv.trans e6)))
                  clear hat c0 c1 hz hall e1 hfb hpv hy f0
                  go_wp2_with fail
                  refine wp_region_bel (by kernel_rfl) (by kernel_rfl) ?_
                  have q0 := fun x : Bel wr => Bel.cell d0 x
                  have q1 := fun x : Bel wr => Bel.cell d1 x
                  have q2 := fun x : Bel wr => Bel.cell g0 x
                  repeat (go_big_quiet_step ((go_at_call 23; exact bel_call _ (HP.out _))))
                  refine wpQuiet_nil ?_
                  intro _ hw'; obtain ⟨x, hw''⟩ := hw'; subst hw''
                  have hx := x.h
                  generalize x.w = w2 at hx ⊢
                  clear q0 q1 q2 x
                  go_wp2
                  go_ret
                  exact ⟨ret_b HZ.out.symm, below_up hnx hx⟩
                · have HZ := Lib.hid (goodT_next hz hall hfb (hpv.trans e6))
                  clear hat c0 c1 hz hall e1 hfb hpv hy f0
                  go_wp2_with fail
                  refine wp_region_bel (by kernel_rfl) (by kernel_rfl) ?_
                  have q0 := fun x : Bel wr => Bel.cell d0 x
                  have q1 := fun x : Bel wr => Bel.cell d1 x
                  have q2 := fun x : Bel wr => Bel.cell g0 x
                  repeat (go_big_quiet_step ((go_at_call 23; exact bel_call _ (HP.out _))))
                  refine wpQuiet_nil ?_
                  intro _ hw'; obtain ⟨x, hw''⟩ := hw'; subst hw''
                  have hx := x.h
                  generalize x.w = w2 at hx ⊢
                  clear q0 q1 q2 x
                  go_wp2
                  go_roundw
                  case rel => exact ⟨k + 1, by omega, by go_num, HZ.out, below_up hnx hx⟩
                  case measure => simp [intOf]; omega
              · have hk0 : k = 0 := by omega
                have HZ := Lib.hid (goodT_next hz hall hfb (by rw [hk0]; exact prevB_zero zs z))
                have i4 : ¬ (0 : Int) < (k : Int) := by omega
                have i9 : decide ((0 : Int) < (k : Int)) = false := decide_eq_false i4
                clear hat c0 c1 hz hall e1 hfb hk0 i4
                go_wp2_with fail
                refine wp_region_bel (by kernel_rfl) (by kernel_rfl) ?_
                have q0 := fun x : Bel wr => Bel.cell d0 x
                have q1 := fun x : Bel wr => Bel.cell d1 x
                repeat (go_big_quiet_step ((go_at_call 23; exact bel_call _ (HP.out _))))
                refine wpQuiet_nil ?_
                intro _ hw'; obtain ⟨x, hw''⟩ := hw'; subst hw''
                have hx := x.h
                generalize x.w = w2 at hx ⊢
                clear q0 q1 x
                go_wp2
                go_roundw
                case rel => exact ⟨k + 1, by omega, by go_num, HZ.out, below_up hnx hx⟩
                case measure => simp [intOf]; omega
      · have hk2 : k = zs.length := by omega
        have hgood : Hid (goodT zs zs.length = true) := by rw [← hk2]; exact hall
        clear hall
        go_wp2
        go_loopw [4] (fun i wr2 => TreRel2 zs w wr2 i) (fun i _ => zs.length - (intOf i).toNat)
        case atStart => exact ⟨1, Nat.le_refl _, .inr rfl, rfl, adjT_one zs, hnx⟩
        case round =>
          obtain ⟨j, hj1, hj2, rfl, hadj, hnx2⟩ := hrel
          by_cases hlt2 : j < zs.length
          · obtain ⟨z, b, off, hz, rfl, hb, c0, c1⟩ := hat j hlt2
            obtain ⟨y, b', off', hy, e5, -, f0, -⟩ := hat (j - 1) (by omega)
            simp only [Option.some.injEq, Addr.mk.injEq, and_true] at e5
            obtain ⟨rfl, rfl⟩ := e5
            have d0 := (hnx2.cell (p := ⟨b, off + j * 2, none⟩) hb).trans c0
            have g0 := (hnx2.cell (p := ⟨b, off + (j - 1) * 2, none⟩) hb).trans f0
            have i4 : (0 : Int) < (j : Int) := by omega
            have i5 : (0 : Int) ≤ (j : Int) - 1 := by omega
            have i6 : (j : Int) - 1 < (zs.length : Int) := by omega
            have i7 : IntKind.i64.wrap ((j : Int) - 1) = (j : Int) - 1 := IntWalk.i64_in _ (by omega)
            have i8 : ((j : Int) - 1).toNat = j - 1 := by omega
            have h0 : (0 : Int) ≤ (j : Int) := Int.natCast_nonneg _
            have hl : (j : Int) < (zs.length : Int) := by omega
            have HU := Lib.hid (fun W => und_spec y.path z.path (by have := (fileFine_get hf hy).1; omega) (by have := (fileFine_get hf hz).1; omega) W)
            have hz' : zs[j - 1 + 1]? = some z := by rw [show j - 1 + 1 = j by omega]; exact hz
            have hadj' : adjT zs (j - 1 + 1) = true := by rw [show j - 1 + 1 = j by omega]; exact hadj
            cases e6 : undB y.path z.path
            · have HZ : Hid (adjT zs (j + 1) = true) := by have h := adjT_step hy hz'; rw [hadj', e6, show j - 1 + 2 = j + 1 by omega] at h; exact h
              clear hat c0 c1 hz hz' hadj' hy f0 hadj
              go_wp2_with fail
              refine wp_region_bel (by kernel_rfl) (by kernel_rfl) ?_
              have q0 := fun x : Bel wr => Bel.cell d0 x
              have q1 := fun x : Bel wr => Bel.cell g0 x
              repeat (go_big_quiet_step ((go_at_call 40; exact bel_call _ (HU.out _))))
              refine wpQuiet_nil ?_
              intro _ hw'; obtain ⟨x, hw''⟩ := hw'; subst hw''
              have hx := x.h
              generalize x.w = w2 at hx ⊢
              clear q0 q1 x
              rw [e6]
              go_wp2
              go_roundw
              case rel => exact ⟨j + 1, by omega, by omega, by go_num, HZ.out, below_up hnx2 hx⟩
              case measure => simp [intOf]; omega
            · have HZ := Lib.hid (treB_bad3 hy hz' e6)
              clear hat c0 c1 hz hz' hadj' hy f0 hadj
              go_wp2_with fail
              refine wp_region_bel (by kernel_rfl) (by kernel_rfl) ?_
              have q0 := fun x : Bel wr => Bel.cell d0 x
              have q1 := fun x : Bel wr => Bel.cell g0 x
              repeat (go_big_quiet_step ((go_at_call 40; exact bel_call _ (HU.out _))))
              refine wpQuiet_nil ?_
              intro _ hw'; obtain ⟨x, hw''⟩ := hw'; subst hw''
              have hx := x.h
              generalize x.w = w2 at hx ⊢
              clear q0 q1 x
              rw [e6]
              go_wp2
              go_ret
              exact ⟨ret_b HZ.out.symm, below_up hnx2 hx⟩
          · have HZ : Hid (treB zs = true) := by
              have e1 : decide (zs.length ≤ 60) = true := decide_eq_true (by omega)
              have e2 : adjT zs zs.length = true := by
                rcases hj2 with h | h
                · have : j = zs.length := by omega
                  rw [← this]; exact hadj
                · subst h
                  have : zs.length = 0 ∨ zs.length = 1 := by omega
                  rcases this with e | e
                  · rw [e]; rfl
                  · rw [e]; exact adjT_one zs
              unfold treB
              rw [e1, hgood.out, e2]; rfl
            clear hadj
            go_wp2
            go_ret
            exact ⟨ret_b HZ.out.symm, hnx2⟩
end Go.Proofs.YtkghhmjmfcnbnaaDoor
