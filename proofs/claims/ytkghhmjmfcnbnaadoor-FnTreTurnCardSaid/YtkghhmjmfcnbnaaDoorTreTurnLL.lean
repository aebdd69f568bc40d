/- FnTreTurn returns true for every code; the tables that its row lists are tied to the program. No condition. -/
import Derived.Test.YtkghhmjmfcnbnaaDoorDrawTE
import Derived.Test.YtkghhmjmfcnbnaaDoorTurnI
import Derived.Test.YtkghhmjmfcnbnaaDoorChF
import Derived.Test.YtkghhmjmfcnbnaaDoorPthOrderH
import Derived.Test.YtkghhmjmfcnbnaaDoorLaidW
namespace Go.Proofs.YtkghhmjmfcnbnaaDoor
open Go.ChangeShapes Go.WideShapes Go.ChangeAt Go.RowKit

/-- is a path that of one of the first k edits -/
def mineB (es : List TEdit) (p : ByteArray) (k : Nat) : Bool := (es.take k).any fun e => decide (e.path = p)
theorem mineB_step {es : List TEdit} {e : TEdit} {p : ByteArray} {k : Nat} (hz : es[k]? = some e) : mineB es p (k + 1) = (mineB es p k || decide (e.path = p)) := by
  unfold mineB; rw [take_one hz]; simp
/-- has none of the edits behind i, up to k, the path -/
def lastB (es : List TEdit) (p : ByteArray) (i k : Nat) : Bool := ((es.take k).drop (i + 1)).all fun e => !decide (e.path = p)
theorem lastB_start (es : List TEdit) (p : ByteArray) (i : Nat) : lastB es p i (i + 1) = true := by
  unfold lastB
  rw [List.drop_of_length_le (by rw [List.length_take]; omega)]; rfl
theorem lastB_step {es : List TEdit} {e : TEdit} {p : ByteArray} {i k : Nat} (hz : es[k]? = some e) (hk : i < k) : lastB es p i (k + 1) = (lastB es p i k && !decide (e.path = p)) := by
  have hl := (List.getElem?_eq_some_iff.1 hz).1
  unfold lastB
  rw [take_one hz, List.drop_append_of_le_length (by rw [List.length_take]; omega)]
  simp
theorem kept_file {zs M : List TFile} {es : List TEdit} {z : TFile} (h : turnT zs es = some M) (hz : z ∈ zs) (hm : mineB es z.path es.length = false) : fgetF M z.path = (z.bytes, true) := by
  obtain ⟨h1, _, h3, h4⟩ := turnT_inv h
  have hx := (turnL_keep (treB_rise h1) h3 z (fun e he => by
    unfold mineB at hm
    rw [List.take_length, List.any_eq_false] at hm
    simpa using hm e he)).2 hz
  exact fget_mem (treB_rise h4) hx
theorem last_edit {zs M : List TFile} {es : List TEdit} {e : TEdit} {i : Nat} (h : turnT zs es = some M) (hz : es[i]? = some e) (hm : lastB es e.path i es.length = true) : fgetF M e.path = (e.bytes, !e.gone) := by
  obtain ⟨h1, _, h3, _⟩ := turnT_inv h
  refine turnL_last (treB_rise h1) h3 hz fun f hf => ?_
  unfold lastB at hm
  rw [List.take_length, List.all_eq_true] at hm
  simpa using hm f hf

theorem fineM {zs M : List TFile} {es : List TEdit} (h : turnT zs es = some M) (hf : fileFine zs) (he : editFine es) : fileFine M := by
  obtain ⟨h1, _, h3, _⟩ := turnT_inv h
  exact turn_fine (treB_rise h1) hf he h3
theorem okM {zs M : List TFile} {es : List TEdit} (h : turnT zs es = some M) : treB M = true := (turnT_inv h).2.2.2
set_option maxRecDepth 100000 in
set_option maxHeartbeats 40000000 in
theorem treTurnL_calls (W : World) (hsh : W.ShapedOpen Tryd.prog) (v : Value) (bs : List UInt8) (hs : Sl 1 byteC W v bs) :
    Calls Tryd.prog 6 #[v] W fun e w' => e = .returned (.bool true) ∧ Below W.heap.size W w' := by
  have hm0 := maxOk_of hsh
  clear hsh
  obtain ⟨A, c, rfl, hlc, hc, -⟩ := id hs
  unfold maxLen at hc
  by_cases hL : (1048576 : Int) < (bs.length : Nat)
  · go_enter Tryd.func6, Tryd.ntmps6
    go_wp2
    go_ret
    exact ⟨rfl, below0 W⟩
  · go_enter Tryd.func6, Tryd.ntmps6
    go_wp2_with fail
    refine (drawTreTurn_calls _ bs _ hs).mono ?_
    rintro e w1 ⟨u, u2, zs, es, hzl, hsz, hel, hse, rfl, su, se, b1⟩
    have m1 := Lib.hid (hm0.below b1)
    have hf := trShort_fine hsz
    have he : editFine es := fun x hx => by have := hse x hx; unfold maxLen; omega
    obtain ⟨Az, cz, rfl, hcz, hlcz, -⟩ := file_z su
    obtain ⟨Ae, ce, rfl, hce, hlce, -⟩ := edit_z se
    unfold maxLen at hcz hce
    go_wp2_with fail
    refine (treTurn_impl _ _ zs es _ m1.out su se hf he).mono ?_
    rintro e w2 ⟨x, rfl, ox, b2⟩
    have B2 := below_up b1 b2
    have m2 := Lib.hid (m1.out.below b2)
    have su2 := su.below b2
    have se2 := se.below b2
    go_wp2_with fail
    refine (treTurn_spec _ _ zs es _ su2 se2 hf he).mono ?_
    rintro e w3 ⟨y, rfl, oy, b3⟩
    have B3 := below_up B2 b3
    have m3 := Lib.hid (m2.out.below b3)
    have sx := (ox.below b3).sl fileC_len
    go_wp2_with fail
    refine (chFiles_calls x y _ _ sx (oy.sl fileC_len)).mono ?_
    rintro e w4 ⟨rfl, b4⟩
    have B4 := below_up B3 b4
    have m4 := Lib.hid (m3.out.below b4)
    have b34 := below_up b3 b4
    have sx4 := sx.below b4
    have su4 := su2.below b34
    have se4 := se2.below b34
    clear B2 B3 b1 b2 b3 b4 b34 m1 m2 m3 su su2 se se2 ox oy sx hs hm0
    cases ht : turnT zs es with
    | none =>
      rw [ht] at sx4
      obtain ⟨Ax, cx, rfl, -, -, -⟩ := file_z sx4
      have HC := Lib.hid (fun W => chOk_calls W)
      clear sx4
      go_wp2_with fail
      refine (HC.out _).mono ?_
      rintro e w5 ⟨rfl, b5⟩
      go_wp2
      go_ret
      exact ⟨rfl, below_up B4 b5⟩
    | some M =>
      rw [ht] at sx4
      have hM : ((some M : Option (List TFile)).getD []) = M := rfl
      rw [hM] at sx4
      have hMl : M.length ≤ 60 := treB_len (turnT_inv ht).2.2.2
      have HT := Lib.hid ht
      clear ht hM
      obtain ⟨Az', cz', eqz, -, -, hatz⟩ := file_z su4
      simp only [Value.slice.injEq, true_and] at eqz
      obtain ⟨rfl, rfl⟩ := eqz
      obtain ⟨Ae', ce', eqe, -, -, hate⟩ := edit_z se4
      simp only [Value.slice.injEq, true_and] at eqe
      obtain ⟨rfl, rfl⟩ := eqe
      obtain ⟨Ax, cx, hxe, -, -, -⟩ := file_z sx4
      subst hxe
      have HFx := Lib.hid (fun W q h => treFind_impl_calls (.slice Ax M.length cx) M q W h (by omega))
      have HSx := Lib.hid sx4
      have HAz := Lib.hid hatz
      have HAe := Lib.hid hate
      have HSe := Lib.hid hse
      clear sx4 su4 se4 hatz hate hse
      go_wp2
      go_loopw [9] (fun i wr => ∃ a : Nat, a ≤ zs.length ∧ i = .int .i64 a ∧ Below w4.heap.size w4 wr) (fun i _ => zs.length - (intOf i).toNat)
      case atStart => exact ⟨0, Nat.zero_le _, rfl, below0 _⟩
      case round =>
        obtain ⟨a, ha, rfl, hno⟩ := hrel
        obtain ⟨wo, rfl⟩ : ∃ wo : World, wo = wr := ⟨_, rfl⟩
        by_cases hlt : a < zs.length
        · obtain ⟨z, bz, oz, hz, rfl, hbz, k0, k1⟩ := HAz.out a hlt
          have hbo : bz < wo.heap.size := Nat.lt_of_lt_of_le hbz hno.size
          have d0 := (hno.cell (p := ⟨bz, oz + a * 2, none⟩) hbz).trans k0
          have d1 := (hno.cell (p := ⟨bz, oz + a * 2 + 1, none⟩) hbz).trans k1
          have hli : (a : Int) < (zs.length : Int) := by omega
          have HZ := Lib.hid hz
          clear k0 k1 hz
          go_wp2
          go_loopw [10, 11] (fun mi k wr => ∃ b : Nat, b ≤ es.length ∧ k = .int .i64 b ∧ mi = .bool (mineB es z.path b) ∧ Below wo.heap.size wo wr) (fun _ k _ => es.length - (intOf k).toNat)
          case atStart => exact ⟨0, Nat.zero_le _, rfl, rfl, below0 _⟩
          case round =>
            obtain ⟨b, hb, rfl, rfl, hnx2⟩ := hrel
            have g0 := (hnx2.cell (p := ⟨bz, oz + a * 2, none⟩) hbo).trans d0
            have g1 := (hnx2.cell (p := ⟨bz, oz + a * 2 + 1, none⟩) hbo).trans d1
            by_cases hltb : b < es.length
            · obtain ⟨e, be, oe, he2, rfl, hbe, j0, -, -⟩ := HAe.out b hltb
              have f0 := (hnx2.cell (p := ⟨be, oe + b * 3, none⟩) (Nat.lt_of_lt_of_le hbe hno.size)).trans ((hno.cell (p := ⟨be, oe + b * 3, none⟩) hbe).trans j0)
              have hlb : (b : Int) < (es.length : Int) := by omega
              have hms := mineB_step (p := z.path) he2
              cases hmb : mineB es z.path b
              · by_cases hp : e.path = z.path
                · have hbq := beq_of_eq hp
                  have HM := Lib.hid (show mineB es z.path (b + 1) = true by rw [hms, hmb]; simp [hp])
                  clear hms j0 he2
                  go_wp2_with fail
                  go_quiet (fail)
                  have hq := below_up hnx2 (below_drewN (below0 wr) nq)
                  generalize wr.drewN nq = w5 at hq ⊢
                  go_wp2
                  go_roundw
                  case rel => exact ⟨b + 1, by omega, by go_num, by rw [HM.out], hq⟩
                  case measure => simp [intOf]; omega
                · have hbq := beq_of_ne hp
                  have HM := Lib.hid (show mineB es z.path (b + 1) = false by rw [hms, hmb]; simp [hp])
                  clear hms j0 he2
                  go_wp2_with fail
                  go_quiet (fail)
                  have hq := below_up hnx2 (below_drewN (below0 wr) nq)
                  generalize wr.drewN nq = w5 at hq ⊢
                  go_wp2
                  go_roundw
                  case rel => exact ⟨b + 1, by omega, by go_num, by rw [HM.out], hq⟩
                  case measure => simp [intOf]; omega
              · have HM := Lib.hid (show mineB es z.path (b + 1) = true by rw [hms, hmb]; rfl)
                clear hms j0 he2
                go_wp2_with fail
                go_quiet (fail)
                have hq := below_up hnx2 (below_drewN (below0 wr) nq)
                generalize wr.drewN nq = w5 at hq ⊢
                go_wp2
                go_roundw
                case rel => exact ⟨b + 1, by omega, by go_num, by rw [HM.out], hq⟩
                case measure => simp [intOf]; omega
            · have hlb : ¬ (b : Int) < (es.length : Int) := by omega
              obtain rfl : b = es.length := by omega
              have HFd := HFx.out wr z.path (HSx.out.below (below_up hno hnx2))
              have hbr : bz < wr.heap.size := Nat.lt_of_lt_of_le hbo hnx2.size
              cases hmb : mineB es z.path es.length
              · rw [kept_file HT.out (List.mem_of_getElem? HZ.out) hmb] at HFd
                have HFd := Lib.hid HFd
                go_wp2_with fail
                refine HFd.out.mono ?_
                rintro e w8 ⟨rfl, b8⟩
                have hn8 := below_up hno (below_up hnx2 b8)
                have p1 := (b8.cell (p := ⟨bz, oz + a * 2 + 1, none⟩) hbr).trans g1
                have hself : (z.bytes.toList == z.bytes.toList) = true := by simp
                clear b8
                go_wp2
                go_roundw
                case rel => exact ⟨a + 1, by omega, by go_num, hn8⟩
                case measure => simp [intOf]; omega
              · generalize (fgetF M z.path).1 = s' at HFd
                generalize (fgetF M z.path).2 = t' at HFd
                have HFd := Lib.hid HFd
                go_wp2_with fail
                refine HFd.out.mono ?_
                rintro e w8 ⟨rfl, b8⟩
                have hn8 := below_up hno (below_up hnx2 b8)
                have p1 := (b8.cell (p := ⟨bz, oz + a * 2 + 1, none⟩) hbr).trans g1
                clear b8
                go_wp2
                go_roundw
                case rel => exact ⟨a + 1, by omega, by go_num, hn8⟩
                case measure => simp [intOf]; omega
        · have hli : ¬ (a : Int) < (zs.length : Int) := by omega
          have hB5 := Lib.hid (below_up B4 hno)
          have HSw := Lib.hid (HSx.out.below hno)
          have HNo := Lib.hid hno
          have m5 := Lib.hid (m4.out.below hno)
          clear hno
          obtain ⟨wz, rfl⟩ : ∃ wz : World, wz = wo := ⟨_, rfl⟩
          go_wp2
          go_loopw [14] (fun i wr => ∃ a : Nat, a ≤ es.length ∧ i = .int .i64 a ∧ Below wz.heap.size wz wr) (fun i _ => es.length - (intOf i).toNat)
          case atStart => exact ⟨0, Nat.zero_le _, rfl, below0 _⟩
          case round =>
            obtain ⟨a, ha, rfl, hno⟩ := hrel
            obtain ⟨wo, rfl⟩ : ∃ wo : World, wo = wr := ⟨_, rfl⟩
            by_cases hlt : a < es.length
            · obtain ⟨z, bz, oz, hz, rfl, hbz0, k0, k1, k2⟩ := HAe.out a hlt
              have hbz : bz < wz.heap.size := Nat.lt_of_lt_of_le hbz0 HNo.out.size
              have hbo : bz < wo.heap.size := Nat.lt_of_lt_of_le hbz hno.size
              have d0 := (hno.cell (p := ⟨bz, oz + a * 3, none⟩) hbz).trans ((HNo.out.cell (p := ⟨bz, oz + a * 3, none⟩) hbz0).trans k0)
              have d1 := (hno.cell (p := ⟨bz, oz + a * 3 + 1, none⟩) hbz).trans ((HNo.out.cell (p := ⟨bz, oz + a * 3 + 1, none⟩) hbz0).trans k1)
              have d2 := (hno.cell (p := ⟨bz, oz + a * 3 + 2, none⟩) hbz).trans ((HNo.out.cell (p := ⟨bz, oz + a * 3 + 2, none⟩) hbz0).trans k2)
              have hli : (a : Int) < (es.length : Int) := by omega
              have HZ := Lib.hid hz
              clear k0 k1 k2 hz
              go_wp2
              go_loopw [15, 16] (fun la k wr => ∃ b : Nat, a < b ∧ b ≤ es.length ∧ k = .int .i64 b ∧ la = .bool (lastB es z.path a b) ∧ Below wo.heap.size wo wr) (fun _ k _ => es.length - (intOf k).toNat)
              case atStart => exact ⟨a + 1, by omega, by omega, by go_num, by rw [lastB_start], below0 _⟩
              case round =>
                obtain ⟨b, hab, hb, rfl, rfl, hnx2⟩ := hrel
                have g0 := (hnx2.cell (p := ⟨bz, oz + a * 3, none⟩) hbo).trans d0
                have g1 := (hnx2.cell (p := ⟨bz, oz + a * 3 + 1, none⟩) hbo).trans d1
                have g2 := (hnx2.cell (p := ⟨bz, oz + a * 3 + 2, none⟩) hbo).trans d2
                by_cases hltb : b < es.length
                · obtain ⟨e, be, oe, he2, hee, hbe, j0, -, -⟩ := HAe.out b hltb
                  simp only [Option.some.injEq, Addr.mk.injEq, and_true] at hee
                  obtain ⟨rfl, rfl⟩ := hee
                  have f0 := (hnx2.cell (p := ⟨bz, oz + b * 3, none⟩) hbo).trans ((hno.cell (p := ⟨bz, oz + b * 3, none⟩) hbz).trans ((HNo.out.cell (p := ⟨bz, oz + b * 3, none⟩) hbz0).trans j0))
                  have hlb : (b : Int) < (es.length : Int) := by omega
                  have hms := lastB_step (p := z.path) he2 hab
                  cases hmb : lastB es z.path a b
                  · have HM := Lib.hid (show lastB es z.path a (b + 1) = false by rw [hms, hmb]; rfl)
                    clear hms j0 he2
                    go_wp2_with fail
                    go_quiet (fail)
                    have hq := below_up hnx2 (below_drewN (below0 wr) nq)
                    generalize wr.drewN nq = w5 at hq ⊢
                    go_wp2
                    go_roundw
                    case rel => exact ⟨b + 1, by omega, by omega, by go_num, by rw [HM.out], hq⟩
                    case measure => simp [intOf]; omega
                  · by_cases hp : e.path = z.path
                    · have hbq := beq_of_eq hp
                      have HM := Lib.hid (show lastB es z.path a (b + 1) = false by rw [hms, hmb]; simp [hp])
                      clear hms j0 he2
                      go_wp2_with fail
                      go_quiet (fail)
                      have hq := below_up hnx2 (below_drewN (below0 wr) nq)
                      generalize wr.drewN nq = w5 at hq ⊢
                      go_wp2
                      go_roundw
                      case rel => exact ⟨b + 1, by omega, by omega, by go_num, by rw [HM.out], hq⟩
                      case measure => simp [intOf]; omega
                    · have hbq := beq_of_ne hp
                      have HM := Lib.hid (show lastB es z.path a (b + 1) = true by rw [hms, hmb]; simp [hp])
                      clear hms j0 he2
                      go_wp2_with fail
                      go_quiet (fail)
                      have hq := below_up hnx2 (below_drewN (below0 wr) nq)
                      generalize wr.drewN nq = w5 at hq ⊢
                      go_wp2
                      go_roundw
                      case rel => exact ⟨b + 1, by omega, by omega, by go_num, by rw [HM.out], hq⟩
                      case measure => simp [intOf]; omega
                · have hlb : ¬ (b : Int) < (es.length : Int) := by omega
                  obtain rfl : b = es.length := by omega
                  have HFd := HFx.out wr z.path (HSw.out.below (below_up hno hnx2))
                  have hbr : bz < wr.heap.size := Nat.lt_of_lt_of_le hbo hnx2.size
                  cases hmb : lastB es z.path a es.length
                  · generalize (fgetF M z.path).1 = s' at HFd
                    generalize (fgetF M z.path).2 = t' at HFd
                    have HFd := Lib.hid HFd
                    go_wp2_with fail
                    refine HFd.out.mono ?_
                    rintro e w8 ⟨rfl, b8⟩
                    have hn8 := below_up hno (below_up hnx2 b8)
                    clear b8
                    go_wp2
                    go_roundw
                    case rel => exact ⟨a + 1, by omega, by go_num, hn8⟩
                    case measure => simp [intOf]; omega
                  · rw [last_edit HT.out HZ.out hmb] at HFd
                    have HFd := Lib.hid HFd
                    go_wp2_with fail
                    refine HFd.out.mono ?_
                    rintro e w8 ⟨rfl, b8⟩
                    have hn8 := below_up hno (below_up hnx2 b8)
                    have p1 := (b8.cell (p := ⟨bz, oz + a * 3 + 1, none⟩) hbr).trans g1
                    have p2 := (b8.cell (p := ⟨bz, oz + a * 3 + 2, none⟩) hbr).trans g2
                    have hself : (z.bytes.toList == z.bytes.toList) = true := by simp
                    clear b8
                    cases hgz : z.gone
                    · rw [hgz] at p2
                      go_wp2
                      go_roundw
                      case rel => exact ⟨a + 1, by omega, by go_num, hn8⟩
                      case measure => simp [intOf]; omega
                    · rw [hgz] at p2
                      go_wp2
                      go_roundw
                      case rel => exact ⟨a + 1, by omega, by go_num, hn8⟩
                      case measure => simp [intOf]; omega
            · have hli : ¬ (a : Int) < (es.length : Int) := by omega
              have HC := tre_impl _ M wo (m5.out.below hno) (HSw.out.below hno) (fineM HT.out hf he)
              rw [okM HT.out] at HC
              have HC := Lib.hid HC
              have hBz := below_up hB5.out hno
              go_wp2_with fail
              refine HC.out.mono ?_
              rintro e w8 ⟨rfl, b8⟩
              go_wp2
              go_ret
              exact ⟨rfl, below_up hBz b8⟩
set_option maxRecDepth 100000 in
theorem treTurnL_lifted (os : Os) (started : os.Started) (H : Type) (enc : TypeId × Value → H) (F : Stop.Interp) :
    ReturnsInHanded {} Tryd.checked os 6 .any ((OpenSpec.ofChange Rows.fnTreTurnSpec).preRow enc Tryd.prog Tryd.f6 Rows.fnTreTurnRow.domain false Rows.fnTreTurnRow.laid) (((OpenSpec.ofChange Rows.fnTreTurnSpec).at F).post enc Tryd.prog Tryd.f6 false true false false) := by
  obtain ⟨places, hx⟩ := (show ∃ places, DataW.whole enc Tryd.prog ((laidWorld os).forCall (fun _ _ => 0) ⟨#[], #[.slice none 0 0], []⟩).memory Tryd.f6.params.toList Rows.fnTreTurnSpec.vars false (#[.slice none 0 0] : Array Value).toList 8 = some ([.nil], [], places) from ⟨[], by kernel_rfl⟩)
  have hmet : laidMet Tryd.prog Rows.fnTreTurnRow.laid ((laidWorld os).forCall (fun _ _ => 0) ⟨#[], #[.slice none 0 0], []⟩).memory := laidMet_of_run' 8 (by kernel_rfl) (by kernel_rfl)
  refine returnsInHanded_of_row (C := Tryd.checked) (s := OpenSpec.ofChange Rows.fnTreTurnSpec) Tryd.own started (by kernel_rfl) Tryd.func6
    (witness_row_at (enc := enc) (C := Tryd.checked) false (laidWorld os) #[.slice none 0 0] rfl (by kernel_rfl) (by kernel_rfl) (by kernel_rfl)
      (OpenSpec.preRow_of_cond 8 hx (by kernel_rfl) (fun k hk => by cases hk) (by kernel_rfl) hmet)) ?_
  intro W base args ds gs before hval0 hW _ _ _ _ hsh _
  show Calls Tryd.prog 6 args W fun e W2 => ∃ v, e = .returned v ∧ Rows.fnTreTurnSpec.post enc Tryd.prog Tryd.f6 false true false false W args v W2
  have hval : ∀ (j : Nat) t v, Tryd.f6.params[j]? = some t → args[j]? = some v → Value.okWide Tryd.prog W .any base t v := hval0
  have hW1 : DataW.Whole enc Tryd.prog Tryd.f6.params.toList Rows.fnTreTurnSpec.vars false W args.toList ds gs before := hW
  have hW2 := hW1
  obtain ⟨p, q, hA0, hV, rfl, _, _⟩ := hW1
  have hA : DataW.TrodAll enc Tryd.prog W 0 (fun _ => true) true Tryd.f6.params.toList args.toList ds p := hA0
  rw [Tryd.params6] at hA hval
  obtain ⟨v0, d0, rfl, rfl, h0⟩ := trodAll_one hA
  obtain ⟨rfl, rfl⟩ := trodVars_none hV
  clear hA0 hval0 hW
  simp only [List.append_nil] at hW2
  have lt0 : ∀ x ∈ p, x.block < W.heap.size := fun x hx => hW2.lt x (by simp [hx])
  have k0 := fun W2 (hb : Below W.heap.size W W2) => Below.trod Tryd.laidOut (by kernel_rfl) (of_decide_eq_true (by kernel_rfl)) h0 hb lt0
  obtain ⟨x0, wf0⟩ := open_bytes (hval 0 33 v0 rfl rfl) h0 lt0
  refine (treTurnL_calls W hsh v0 x0 wf0).mono fun e W2 ⟨he, hb⟩ => ?_
  subst he
  exact ⟨_, rfl, _, _, _, [], _, [], hW2, trodAll_mk1 (shut_bool Tryd.underlying4 true), trodAll_mk1 (k0 W2 hb), rfl, hb.frame _, fun h => by cases h⟩

theorem treTurnL_said : Rows.FnTreTurnSaid :=
  OpenClaim.holds_of_cond 6 Tryd.f6 rfl rfl rfl rfl rfl rfl rfl ⟨rfl, rfl, rfl, rfl, rfl⟩ rfl rfl rfl rfl rfl (by kernel_rfl) Tryd.func6 (by kernel_rfl)
    (of_decide_eq_true (by kernel_rfl)) (by unfold Func.isWrapper; first | (rw [if_pos (by decide +kernel)]; kernel_rfl) | (rw [if_neg (by decide +kernel)]; exact ⟨rfl, rfl⟩))
    (fun os started H enc _ F => by rw [OpenClaim.pre_eq_preRow]; exact treTurnL_lifted os started H enc F)
theorem treTurnL_plain (f : FuncId) (fn : Func) (hf : Tryd.pinned.checked.prog.funcNamed "loop.example/chartulary/laws.FnTreTurn" = some f) (hfn : Tryd.pinned.checked.prog.funcs[f]? = some fn) :
    false = Tryd.pinned.checked.prog.looks [] ∧ ∀ (j : Nat) t, fn.params[j]? = some t → Tryd.pinned.checked.prog.wantsStandIn t = false := by
  obtain rfl : f = 6 := Option.some.inj ((show Tryd.prog.funcNamed "loop.example/chartulary/laws.FnTreTurn" = some 6 by kernel_rfl).symm.trans hf) |>.symm
  obtain rfl : fn = Tryd.f6 := (Option.some.inj (Tryd.func6.symm.trans hfn)).symm
  refine ⟨by kernel_rfl, fun j t ht => ?_⟩
  rw [Tryd.params6] at ht
  have hm := Array.mem_of_getElem? ht
  simp only [List.mem_toArray, List.mem_cons, List.not_mem_nil, or_false] at hm
  subst hm
  exact (show Tryd.prog.wantsStandIn 33 = false by kernel_rfl)

theorem treTurnL_holds : Rows.FnTreTurnCardSaid :=
  Claim7.holds_tied_plain_at .later [] _ _ _ _ treTurnL_said (fun _ h => by cases h) (by kernel_rfl) (fun _ h => by cases h) fnTreTurn_row_tie rfl ⟨rfl, rfl⟩ (by kernel_rfl) rfl treTurnL_plain (by kernel_rfl)
end Go.Proofs.YtkghhmjmfcnbnaaDoor
