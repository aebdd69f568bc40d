/- spec's TreTurn, by a plain function. -/
import Derived.Test.YtkghhmjmfcnbnaaDoorTurnS
import Derived.Test.YtkghhmjmfcnbnaaDoorTreS
import Derived.Test.YtkghhmjmfcnbnaaDoorEditOpen
namespace Go.Proofs.YtkghhmjmfcnbnaaDoor
open Go.RowKit

/-- a call of TreTurn -/
def TreTurnPost (zs : List TFile) (es : List TEdit) (w : World) (en : Ending) (w' : World) : Prop :=
  ∃ v, en = .returned (.tuple #[v, .bool (turnT zs es).isSome]) ∧ Own 2 fileC 55 w.heap.size w' v ((turnT zs es).getD []) ∧ Below w.heap.size w w'
/-- edits that are not too long for the walks -/
def editFine (es : List TEdit) : Prop := ∀ e ∈ es, e.path.size ≤ 1048576 ∧ e.bytes.size ≤ maxLen
theorem turn_fine {zs M : List TFile} {es : List TEdit} (hr : RiseT zs) (hf : fileFine zs) (he : editFine es) (h : turnL zs es = some M) : fileFine M := by
  intro x hx
  rcases turnL_mem hr h x hx with h1 | ⟨e, h2, _, rfl⟩
  · exact hf x h1
  · exact he e h2
theorem take_mem {es : List TEdit} (he : editFine es) (k : Nat) : editFine (es.take k) := fun e h => he e (List.mem_of_mem_take h)
theorem post_none {zs : List TFile} {es : List TEdit} {w w' : World} {v : Value} (h : turnT zs es = none) (ho : Own 2 fileC 55 w.heap.size w' v []) (hb : Below w.heap.size w w') : TreTurnPost zs es w (.returned (.tuple #[v, .bool false])) w' := by
  refine ⟨v, by rw [h]; rfl, by rw [h]; exact ho, hb⟩
theorem post_some {zs M : List TFile} {es : List TEdit} {w w' : World} {v : Value} (h : turnT zs es = some M) (ho : Own 2 fileC 55 w.heap.size w' v M) (hb : Below w.heap.size w w') : TreTurnPost zs es w (.returned (.tuple #[v, .bool true])) w' := by
  refine ⟨v, by rw [h]; rfl, by rw [h]; exact ho, hb⟩
theorem own_lit {W w : World} (hb : W.heap.size ≤ w.heap.size) : Own 2 fileC 55 W.heap.size (w.alloc (.cells #[] 55)) (.slice (some ⟨w.heap.size, 0, none⟩) 0 0) ([] : List TFile) := World.ownsRow_lit w #[] 0 hb (by simp [maxLen]) rfl
theorem edit_z {w : World} {v : Value} {zs : List TEdit} (h : Sl 3 editC w v zs) : ∃ A c, v = .slice A zs.length c ∧ c ≤ maxLen ∧ zs.length ≤ c ∧
    ∀ k, k < zs.length → ∃ (z : TEdit) (b off : Nat), zs[k]? = some z ∧ A = some ⟨b, off, none⟩ ∧ b < w.heap.size ∧ w.cell? ⟨b, off + k * 3, none⟩ = some (.string z.path) ∧ w.cell? ⟨b, off + k * 3 + 1, none⟩ = some (.string z.bytes) ∧ w.cell? ⟨b, off + k * 3 + 2, none⟩ = some (.bool z.gone) := by
  obtain ⟨A, c, h1, h2, h3, h4⟩ := edit_at h
  exact ⟨A, c, h1, h2, h3, fun k hk => by obtain ⟨p, q, g, b, off, h⟩ := h4 k hk; exact ⟨⟨p, q, g⟩, b, off, h⟩⟩
set_option maxRecDepth 100000 in
set_option maxHeartbeats 4000000 in
theorem treTurn_spec (u v : Value) (zs : List TFile) (es : List TEdit) (w : World) (hu : Sl 2 fileC w u zs) (hv : Sl 3 editC w v es) (hf : fileFine zs) (he : editFine es) :
    Calls Tryd.prog 33 #[u, v] w (TreTurnPost zs es w) := by
  obtain ⟨A, c, rfl, hc, hlc, -⟩ := file_z hu
  obtain ⟨A', c', rfl, hc', hlc', hat⟩ := edit_z hv
  unfold maxLen at hc hc'
  have HT := Lib.hid (tre_spec _ zs w hu hf)
  cases h1 : treB zs
  · have HN := Lib.hid (turnT_no1 (es := es) h1)
    rw [h1] at HT
    clear hat
    go_enter Tryd.func33, Tryd.ntmps33
    go_wp2_with fail
    refine HT.out.mono ?_
    rintro e w1 ⟨rfl, b1⟩
    go_wp2
    go_ret2
    exact post_none HN.out (own_lit b1.size) (al b1 _)
  · rw [h1] at HT
    by_cases h4 : es.length ≤ 4
    · have hrise := treB_rise h1
      have hlen := treB_len h1
      have i4 : ¬ (4 : Int) < (es.length : Int) := by omega
      go_enter Tryd.func33, Tryd.ntmps33
      go_wp2_with fail
      refine HT.out.mono ?_
      rintro e w1 ⟨rfl, b1⟩
      go_wp2_with fail
      refine (l4Copy_calls _ zs _ (hu.below b1) (by omega)).mono ?_
      rintro e w2 ⟨v2, rfl, own2, b2⟩
      have B2 := below_up b1 b2
      have own2 := Lib.hid (own2.mono b1.size)
      clear b1 b2 HT
      go_wp2
      go_loopw [6, 7] (fun o i wr => ∃ (k : Nat) (cur : List TFile), k ≤ es.length ∧ i = .int .i64 k ∧ turnL zs (es.take k) = some cur ∧ Own 2 fileC 55 w.heap.size wr o cur ∧ Below w.heap.size w wr) (fun _ i _ => es.length - (intOf i).toNat)
      case atStart => exact ⟨0, zs, Nat.zero_le _, rfl, rfl, own2.out, B2⟩
      case round =>
        obtain ⟨k, cur, hk, rfl, hcur, hown, hnx⟩ := hrel
        obtain ⟨hrc, hcl⟩ := turnL_rise hrise hcur
        have hcl2 : cur.length ≤ 64 := by have := List.length_take_le k es; omega
        by_cases hlt : k < es.length
        · obtain ⟨z, b, off, hz, rfl, hbl, c0, c1, c2⟩ := hat k hlt
          have d0 := (hnx.cell (p := ⟨b, off + k * 3, none⟩) hbl).trans c0
          have d1 := (hnx.cell (p := ⟨b, off + k * 3 + 1, none⟩) hbl).trans c1
          have d2 := (hnx.cell (p := ⟨b, off + k * 3 + 2, none⟩) hbl).trans c2
          have HS := Lib.hid (turnL_step hz hcur)
          have HX := Lib.hid (fun h => turnL_stop hz hcur h)
          have HL := Lib.hid (l4Turn_calls _ cur z w.heap.size wr hown hnx.size hrc (by omega))
          clear hat c0 c1 c2 hz hcur hown
          go_wp2_with fail
          refine HL.out.mono ?_
          rintro e w3 ⟨⟨ht, v3, rfl⟩ | ⟨M, v3, ht, rfl, own3⟩, b3⟩
          · have HN := Lib.hid (turnT_no3 (HX.out ht))
            have B3 := below_up hnx b3
            go_wp2
            go_ret2
            exact post_none HN.out (own_lit B3.size) (al B3 _)
          · have H3 := Lib.hid (And.intro own3 (below_up hnx b3))
            rw [ht] at HS
            clear own3
            go_wp2
            go_roundw
            case rel => exact ⟨k + 1, M, by omega, by go_num, HS.out, H3.out.1, H3.out.2⟩
            case measure => simp [intOf]; omega
        · obtain rfl : k = es.length := by omega
          have hcur2 := hcur
          rw [List.take_length] at hcur2
          have hfc := turn_fine hrise hf he hcur2
          have HC := Lib.hid (tre_spec _ cur wr (hown.sl fileC_len) hfc)
          have HO := Lib.hid hown
          have HQ := Lib.hid hcur2
          clear hat hown hcur hcur2
          cases h5 : treB cur
          · have HN := Lib.hid (turnT_no4 HQ.out h5)
            rw [h5] at HC
            go_wp2_with fail
            refine HC.out.mono ?_
            rintro e w3 ⟨rfl, b3⟩
            have B3 := below_up hnx b3
            go_wp2
            go_ret2
            exact post_none HN.out (own_lit B3.size) (al B3 _)
          · have HN := Lib.hid (turnT_yes h1 h4 HQ.out h5)
            rw [h5] at HC
            go_wp2_with fail
            refine HC.out.mono ?_
            rintro e w3 ⟨rfl, b3⟩
            have B3 := below_up hnx b3
            have O3 := Lib.hid (HO.out.below b3)
            go_wp2
            go_ret2
            exact post_some HN.out O3.out B3
    · have HN := Lib.hid (turnT_no2 (L := zs) h4)
      have i4 : (4 : Int) < (es.length : Int) := by omega
      clear hat
      go_enter Tryd.func33, Tryd.ntmps33
      go_wp2_with fail
      refine HT.out.mono ?_
      rintro e w1 ⟨rfl, b1⟩
      go_wp2
      go_ret2
      exact post_none HN.out (own_lit b1.size) (al b1 _)
end Go.Proofs.YtkghhmjmfcnbnaaDoor
