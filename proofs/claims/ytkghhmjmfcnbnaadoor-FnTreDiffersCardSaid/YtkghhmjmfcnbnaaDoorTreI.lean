/- impl's TreOk, by a plain function. -/
import Derived.Test.YtkghhmjmfcnbnaaDoorTreS
import Derived.Test.YtkghhmjmfcnbnaaDoorPthJ
namespace Go.Proofs.YtkghhmjmfcnbnaaDoor
open Go.RowKit

/-- none of the first k -/
def NoneT {α : Type} (p : α → Bool) (zs : List α) (k : Nat) : Prop := ∀ z ∈ zs.take k, p z = false
theorem noneT_zero {α : Type} (p : α → Bool) (zs : List α) : NoneT p zs 0 := fun z hz => by simp at hz
theorem noneT_step {α : Type} {p : α → Bool} {zs : List α} {z : α} {k : Nat} (hz : zs[k]? = some z) (h : p z = false) (hn : NoneT p zs k) : NoneT p zs (k + 1) := by
  unfold NoneT
  rw [take_one hz]
  intro y hy
  rcases List.mem_append.1 hy with h1 | h1
  · exact hn y h1
  · simp at h1; subst h1; exact h
theorem noneT_any {α : Type} {p : α → Bool} {zs : List α} {k n : Nat} (hk : ¬ k < n) (hl : zs.length ≤ n) (hn : NoneT p zs k) : zs.any p = false := by
  unfold NoneT at hn
  rw [List.take_of_length_le (by omega)] at hn
  rw [List.any_eq_false]
  intro z hz
  rw [hn z hz]; simp
theorem allT_next {zs : List TFile} {z : TFile} {k : Nat} (hz : zs[k]? = some z) (h : allT zs k = true) (hf : fileB z = true) (hp : prevB zs k z = true) (ha : (zs.take k).any (fun g => undB g.path z.path) = false) : allT zs (k + 1) = true := by rw [allT_step hz, h, hf, hp, ha]; rfl
theorem leq_yes {a b : ByteArray} (h : Op.bytesLess a.toList b.toList = false) : (Op.bytesLess b.toList a.toList || b.toList == a.toList) = true := by
  rcases bl_tri a.toList b.toList with k | k | k
  · have k' : Op.bytesLess a.toList b.toList = true := k
    rw [h] at k'; cases k'
  · rw [k]; simp
  · have k' : Op.bytesLess b.toList a.toList = true := k
    rw [k']; rfl
theorem leq_no {a b : ByteArray} (h : Op.bytesLess a.toList b.toList = true) : (Op.bytesLess b.toList a.toList || b.toList == a.toList) = false := by
  have h1 : Op.bytesLess b.toList a.toList = false := bl_asymm h
  have h2 : (b.toList == a.toList) = false := beq_eq_false_iff_ne.2 (fun e => bl_ne h e.symm)
  rw [h1, h2]; rfl
set_option maxRecDepth 100000 in
set_option maxHeartbeats 4000000 in
theorem tre_impl (v : Value) (zs : List TFile) (w : World) (hm : MaxOk w) (hv : Sl 2 fileC w v zs) (hf : fileFine zs) :
    Calls Tryd.prog 24 #[v] w fun e w' => e = .returned (.bool (treB zs)) ∧ Below w.heap.size w w' := by
  obtain ⟨A, c, rfl, hc, hlc, hat⟩ := file_z hv
  unfold maxLen at hc
  by_cases h60 : (60 : Int) < zs.length
  · rw [treB_long (by omega)]
    go_enter Tryd.func24, Tryd.ntmps24
    go_wp2
    go_ret
    exact ⟨rfl, below0 w⟩
  · go_enter Tryd.func24, Tryd.ntmps24
    go_wp2
    go_loopw [12] (fun i wr => ∃ k : Nat, k ≤ zs.length ∧ i = .int .i64 k ∧ allT zs k = true ∧ Below w.heap.size w wr) (fun i _ => zs.length - (intOf i).toNat)
    case atStart => exact ⟨0, Nat.zero_le _, rfl, rfl, below0 w⟩
    case round =>
      obtain ⟨k, hk, rfl, hall, hnx⟩ := hrel
      by_cases hlt : k < zs.length
      · obtain ⟨z, b, off, hz, rfl, hb, c0, c1⟩ := hat k hlt
        have d0 := (hnx.cell (p := ⟨b, off + k * 2, none⟩) hb).trans c0
        have d1 := (hnx.cell (p := ⟨b, off + k * 2 + 1, none⟩) hb).trans c1
        obtain ⟨hz1, hz2⟩ := fileFine_get hf hz
        have HP := Lib.hid (fun W hm => pth_impl z.path (by omega) W hm)
        have hB := al (below0 wr) (.cells #[.string z.path, .string z.bytes] 55)
        have hnB := below_up hnx hB
        have dm := Lib.hid ((hm.below hnx).below hB)
        have hnew := heap_alloc_new wr (.cells #[.string z.path, .string z.bytes] 55)
        have p0 : (wr.alloc (.cells #[.string z.path, .string z.bytes] 55)).cell? ⟨wr.heap.size, 0, none⟩ = some (.string z.path) := by rw [cell_of_row _ _ 0 _ _ _ hnew]; rfl
        have p1 : (wr.alloc (.cells #[.string z.path, .string z.bytes] 55)).cell? ⟨wr.heap.size, 1, none⟩ = some (.string z.bytes) := by rw [cell_of_row _ _ 1 _ _ _ hnew]; rfl
        have h0 : (0 : Int) ≤ (k : Int) := Int.natCast_nonneg _
        have hl : (k : Int) < (zs.length : Int) := by omega
        clear hnew
        unfold maxLen at hz2
        by_cases e1 : toL z.path = []
        · have HZ := Lib.hid (treB_bad1 hz (and_no1 (b := prevB zs k z) (fileB_no1 e1)))
          have t1 := empty_yes e1
          cases e2 : pthB z.path
          · clear hat c0 c1 hz hall e1
            go_wp2_with fail
            refine wp_region_bel (by kernel_rfl) (by kernel_rfl) ?_
            have q0 := fun x : Bel (wr.alloc (.cells #[.string z.path, .string z.bytes] 55)) => Bel.cell p0 x
            have q1 := fun x : Bel (wr.alloc (.cells #[.string z.path, .string z.bytes] 55)) => Bel.cell p1 x
            repeat (go_big_quiet_step ((go_at_call 55; exact bel_call _ (HP.out _ (dm.out.below (Bel.h _))))))
            refine wpQuiet_nil ?_
            intro _ hw'; obtain ⟨x, hw''⟩ := hw'; subst hw''
            have hx := x.h
            generalize x.w = w2 at hx ⊢
            clear q0 q1 x
            go_wp2
            go_ret
            exact ⟨ret_b HZ.out.symm, below_up hnB hx⟩
          · clear hat c0 c1 hz hall e1
            go_wp2_with fail
            refine wp_region_bel (by kernel_rfl) (by kernel_rfl) ?_
            have q0 := fun x : Bel (wr.alloc (.cells #[.string z.path, .string z.bytes] 55)) => Bel.cell p0 x
            have q1 := fun x : Bel (wr.alloc (.cells #[.string z.path, .string z.bytes] 55)) => Bel.cell p1 x
            repeat (go_big_quiet_step ((go_at_call 55; exact bel_call _ (HP.out _ (dm.out.below (Bel.h _))))))
            refine wpQuiet_nil ?_
            intro _ hw'; obtain ⟨x, hw''⟩ := hw'; subst hw''
            have hx := x.h
            generalize x.w = w2 at hx ⊢
            clear q0 q1 x
            go_wp2
            go_ret
            exact ⟨ret_b HZ.out.symm, below_up hnB hx⟩
        · have t1 := empty_no e1
          cases e2 : pthB z.path
          · have HZ := Lib.hid (treB_bad1 hz (and_no1 (b := prevB zs k z) (fileB_no2 e2)))
            clear hat c0 c1 hz hall e1
            go_wp2_with fail
            refine wp_region_bel (by kernel_rfl) (by kernel_rfl) ?_
            have q0 := fun x : Bel (wr.alloc (.cells #[.string z.path, .string z.bytes] 55)) => Bel.cell p0 x
            have q1 := fun x : Bel (wr.alloc (.cells #[.string z.path, .string z.bytes] 55)) => Bel.cell p1 x
            repeat (go_big_quiet_step ((go_at_call 55; exact bel_call _ (HP.out _ (dm.out.below (Bel.h _))))))
            refine wpQuiet_nil ?_
            intro _ hw'; obtain ⟨x, hw''⟩ := hw'; subst hw''
            have hx := x.h
            generalize x.w = w2 at hx ⊢
            clear q0 q1 x
            go_wp2
            go_ret
            exact ⟨ret_b HZ.out.symm, below_up hnB hx⟩
          · by_cases e3 : (6 : Int) < z.bytes.size
            · have HZ := Lib.hid (treB_bad1 hz (and_no1 (b := prevB zs k z) (fileB_no3 e3)))
              have i3 : decide ((6 : Int) < (z.bytes.size : Int)) = true := decide_eq_true e3
              clear hat c0 c1 hz hall e1
              go_wp2_with fail
              refine wp_region_bel (by kernel_rfl) (by kernel_rfl) ?_
              have q0 := fun x : Bel (wr.alloc (.cells #[.string z.path, .string z.bytes] 55)) => Bel.cell p0 x
              have q1 := fun x : Bel (wr.alloc (.cells #[.string z.path, .string z.bytes] 55)) => Bel.cell p1 x
              repeat (go_big_quiet_step ((go_at_call 55; exact bel_call _ (HP.out _ (dm.out.below (Bel.h _))))))
              refine wpQuiet_nil ?_
              intro _ hw'; obtain ⟨x, hw''⟩ := hw'; subst hw''
              have hx := x.h
              generalize x.w = w2 at hx ⊢
              clear q0 q1 x
              go_wp2
              go_ret
              exact ⟨ret_b HZ.out.symm, below_up hnB hx⟩
            · have hfb := fileB_yes e1 e2 e3
              have i3 : decide ((6 : Int) < (z.bytes.size : Int)) = false := decide_eq_false e3
              by_cases e4 : 0 < k
              · obtain ⟨y, b', off', hy, e5, -, f0, -⟩ := hat (k - 1) (by omega)
                simp only [Option.some.injEq, Addr.mk.injEq, and_true] at e5
                obtain ⟨rfl, rfl⟩ := e5
                have g0 := (hnB.cell (p := ⟨b, off + (k - 1) * 2, none⟩) hb).trans f0
                have hpv := prevB_get (z := z) e4 hy
                have i4 : (0 : Int) < (k : Int) := by omega
                have i9 : decide ((0 : Int) < (k : Int)) = true := decide_eq_true i4
                have i5 : (0 : Int) ≤ (k : Int) - 1 := by omega
                have i6 : (k : Int) - 1 < (zs.length : Int) := by omega
                have i7 : IntKind.i64.wrap ((k : Int) - 1) = (k : Int) - 1 := IntWalk.i64_in _ (by omega)
                have i8 : ((k : Int) - 1).toNat = k - 1 := by omega
                cases e6 : Op.bytesLess y.path.toList z.path.toList
                · have HZ := Lib.hid (treB_bad1 hz (and_no2 (a := fileB z) (hpv.trans e6)))
                  have e8 := leq_yes e6
                  clear hat c0 c1 hz hall e1 hfb hpv hy f0
                  go_wp2_with fail
                  refine wp_region_bel (by kernel_rfl) (by kernel_rfl) ?_
                  have q0 := fun x : Bel (wr.alloc (.cells #[.string z.path, .string z.bytes] 55)) => Bel.cell p0 x
                  have q1 := fun x : Bel (wr.alloc (.cells #[.string z.path, .string z.bytes] 55)) => Bel.cell p1 x
                  have q2 := fun x : Bel (wr.alloc (.cells #[.string z.path, .string z.bytes] 55)) => Bel.cell g0 x
                  repeat (go_big_quiet_step ((go_at_call 55; exact bel_call _ (HP.out _ (dm.out.below (Bel.h _))))))
                  refine wpQuiet_nil ?_
                  intro _ hw'; obtain ⟨x, hw''⟩ := hw'; subst hw''
                  have hx := x.h
                  generalize x.w = w2 at hx ⊢
                  clear q0 q1 q2 x
                  go_wp2
                  go_ret
                  exact ⟨ret_b HZ.out.symm, below_up hnB hx⟩
                · have HZ : Hid (fileB z = true ∧ prevB zs k z = true) := ⟨hfb, hpv.trans e6⟩
                  have e8 := leq_no e6
                  have hz' := hz
                  clear c0 c1 hz e1 hfb hpv hy f0
                  go_wp2_with fail
                  refine wp_region_bel (by kernel_rfl) (by kernel_rfl) ?_
                  have q0 := fun x : Bel (wr.alloc (.cells #[.string z.path, .string z.bytes] 55)) => Bel.cell p0 x
                  have q1 := fun x : Bel (wr.alloc (.cells #[.string z.path, .string z.bytes] 55)) => Bel.cell p1 x
                  have q2 := fun x : Bel (wr.alloc (.cells #[.string z.path, .string z.bytes] 55)) => Bel.cell g0 x
                  repeat (go_big_quiet_step ((go_at_call 55; exact bel_call _ (HP.out _ (dm.out.below (Bel.h _))))))
                  refine wpQuiet_nil ?_
                  intro _ hw'; obtain ⟨x, hw''⟩ := hw'; subst hw''
                  have hx := x.h
                  generalize x.w = w2 at hx ⊢
                  clear q0 q1 q2 x
                  have nB := below_up hnB hx
                  have mB := Lib.hid (dm.out.below hx)
                  have f1 := (hx.cell (p := ⟨wr.heap.size, 0, none⟩) (by simp)).trans p0
                  have lB : wr.heap.size < w2.heap.size := by have := hx.size; simp at this; omega
                  clear p0 p1 hx
                  rw [e2]
                  obtain ⟨wo, rfl⟩ : ∃ wo : World, wo = wr := ⟨_, rfl⟩
                  go_wp2
                  go_loopw [51] (fun i wr2 => ∃ j : Nat, j ≤ k ∧ i = .int .i64 j ∧ NoneT (fun g => undB g.path z.path) (zs.take k) j ∧ Below w2.heap.size w2 wr2) (fun i _ => k - (intOf i).toNat)
                  case atStart => exact ⟨0, Nat.zero_le _, rfl, noneT_zero _ _, below0 w2⟩
                  case round =>
                    obtain ⟨j, hj, rfl, hno, hn2⟩ := hrel
                    by_cases hjk : j < k
                    · obtain ⟨g, b', off', hg, e5, hb', a0, a1⟩ := hat j (by omega)
                      simp only [Option.some.injEq, Addr.mk.injEq, and_true] at e5
                      obtain ⟨rfl, rfl⟩ := e5
                      have nB2 := below_up nB hn2
                      have r0 := (nB2.cell (p := ⟨b, off + j * 2, none⟩) hb').trans a0
                      have r1 := (nB2.cell (p := ⟨b, off + j * 2 + 1, none⟩) hb').trans a1
                      have hB2 := al (below0 wr) (.cells #[.string g.path, .string g.bytes] 55)
                      have f2 := (below_up hn2 hB2).cell (p := ⟨wo.heap.size, 0, none⟩) lB |>.trans f1
                      have m2 := Lib.hid ((mB.out.below hn2).below hB2)
                      have hgt : (zs.take k)[j]? = some g := by rw [List.getElem?_take, if_pos hjk]; exact hg
                      have HU := Lib.hid (fun W hm => und_impl g.path z.path (by have := (fileFine_get hf hg).1; omega) (by have := (fileFine_get hf hz').1; omega) W hm)
                      cases e7 : undB g.path z.path
                      · have HY := Lib.hid (noneT_step (p := fun g => undB g.path z.path) hgt e7 hno)
                        clear hg hgt hno
                        go_wp2_with fail
                        refine (HU.out _ m2.out).mono ?_
                        rintro e w3 ⟨rfl, b3⟩
                        rw [e7]
                        go_wp2
                        go_roundw
                        case rel => first | exact ⟨j + 1, by omega, by go_num, HY.out, below_up (below_up hn2 hB2) b3⟩ | ((repeat apply Exists.intro); exact ⟨⟨j + 1, by omega, by go_num, HY.out, below_up (below_up hn2 hB2) b3⟩, rfl⟩)
                        case measure => simp [intOf]; omega
                      · have HY := Lib.hid (treB_bad2 hz' hgt e7)
                        clear hg hgt hno
                        go_wp2_with fail
                        refine (HU.out _ m2.out).mono ?_
                        rintro e w3 ⟨rfl, b3⟩
                        rw [e7]
                        go_wp2
                        go_ret
                        exact ⟨ret_b HY.out.symm, below_up nB (below_up (below_up hn2 hB2) b3)⟩
                    · have HY := Lib.hid (allT_next hz' hall HZ.out.1 HZ.out.2 (noneT_any hjk (by simp; omega) hno))
                      clear hno
                      go_wp2
                      go_roundw
                      case rel => exact ⟨k + 1, by omega, by go_num, HY.out, below_up nB hn2⟩
                      case measure => simp [intOf]; omega
              · have hk0 : k = 0 := by omega
                have HZ : Hid (fileB z = true ∧ prevB zs k z = true) := ⟨hfb, by rw [hk0]; exact prevB_zero zs z⟩
                have i4 : ¬ (0 : Int) < (k : Int) := by omega
                have i9 : decide ((0 : Int) < (k : Int)) = false := decide_eq_false i4
                have hz' := hz
                have hk1 : k ≤ 0 := by omega
                clear c0 c1 hz e1 hfb hk0 i4
                go_wp2_with fail
                refine wp_region_bel (by kernel_rfl) (by kernel_rfl) ?_
                have q0 := fun x : Bel (wr.alloc (.cells #[.string z.path, .string z.bytes] 55)) => Bel.cell p0 x
                have q1 := fun x : Bel (wr.alloc (.cells #[.string z.path, .string z.bytes] 55)) => Bel.cell p1 x
                repeat (go_big_quiet_step ((go_at_call 55; exact bel_call _ (HP.out _ (dm.out.below (Bel.h _))))))
                refine wpQuiet_nil ?_
                intro _ hw'; obtain ⟨x, hw''⟩ := hw'; subst hw''
                have hx := x.h
                generalize x.w = w2 at hx ⊢
                clear q0 q1 x
                have nB := below_up hnB hx
                have mB := Lib.hid (dm.out.below hx)
                have f1 := (hx.cell (p := ⟨wr.heap.size, 0, none⟩) (by simp)).trans p0
                have lB : wr.heap.size < w2.heap.size := by have := hx.size; simp at this; omega
                clear p0 p1 hx
                rw [e2]
                obtain ⟨wo, rfl⟩ : ∃ wo : World, wo = wr := ⟨_, rfl⟩
                go_wp2
                go_loopw [51] (fun i wr2 => ∃ j : Nat, j ≤ k ∧ i = .int .i64 j ∧ NoneT (fun g => undB g.path z.path) (zs.take k) j ∧ Below w2.heap.size w2 wr2) (fun i _ => k - (intOf i).toNat)
                case atStart => exact ⟨0, Nat.zero_le _, rfl, noneT_zero _ _, below0 w2⟩
                case round =>
                  obtain ⟨j, hj, rfl, hno, hn2⟩ := hrel
                  by_cases hjk : j < k
                  · exact absurd hjk (by omega)
                  · have HY := Lib.hid (allT_next hz' hall HZ.out.1 HZ.out.2 (noneT_any hjk (by simp; omega) hno))
                    clear hno
                    go_wp2
                    go_roundw
                    case rel => exact ⟨k + 1, by omega, by go_num, HY.out, below_up nB hn2⟩
                    case measure => simp [intOf]; omega
      · have HZ : Hid (treB zs = true) := by
          have e1 : decide (zs.length ≤ 60) = true := decide_eq_true (by omega)
          have : k = zs.length := by omega
          rw [treB_all, e1, ← this, hall]; rfl
        clear hall
        go_wp2
        go_ret
        exact ⟨ret_b HZ.out.symm, hnx⟩
end Go.Proofs.YtkghhmjmfcnbnaaDoor
