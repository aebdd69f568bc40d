/- The drawing of trees. -/
import Derived.Test.YtkghhmjmfcnbnaaDoorDrawEdit
import Derived.Test.YtkghhmjmfcnbnaaDoorDrawEdits
import Derived.Test.YtkghhmjmfcnbnaaDoorDrawP
import Derived.Test.YtkghhmjmfcnbnaaDoorTurnT
namespace Go.Proofs.YtkghhmjmfcnbnaaDoor
open Go.RowKit

/-- short files -/
def trShort (zs : List TFile) : Prop := ∀ z ∈ zs, z.path.size ≤ 11 ∧ z.bytes.size ≤ 7
theorem trShort_fine {zs : List TFile} (h : trShort zs) : fileFine zs := fun z hz => by have := h z hz; unfold maxLen; omega
theorem trShort_nil : trShort [] := fun z hz => by cases hz
theorem trShort_app {zs ys : List TFile} (h : trShort zs) (h' : trShort ys) : trShort (zs ++ ys) := fun z hz => (List.mem_append.1 hz).elim (h z) (h' z)
theorem trShort_one {p s : ByteArray} (h1 : p.size ≤ 11) (h2 : s.size ≤ 7) : trShort [⟨p, s⟩] := fun z hz => by
  simp at hz; subst hz; exact ⟨h1, h2⟩
theorem edShort_one {a s : ByteArray} {b : Bool} (h1 : a.size ≤ 6) (h2 : s.size ≤ 6) : edShort [⟨a, s, b⟩] := fun z hz => by
  simp at hz; subst hz; exact ⟨h1, h2⟩
theorem edShort_fine {es : List TEdit} (h : edShort es) : editFine es := fun z hz => by have := h z hz; unfold maxLen; omega
theorem turn_short {zs M : List TFile} {es : List TEdit} (h : turnT zs es = some M) (hs : trShort zs) (he : ∀ e ∈ es, e.path.size ≤ 11 ∧ e.bytes.size ≤ 7) : trShort M ∧ M.length ≤ zs.length + es.length := by
  obtain ⟨h1, _, h3, _⟩ := turnT_inv h
  refine ⟨fun x hx => ?_, (turnL_rise (treB_rise h1) h3).2⟩
  rcases turnL_mem (treB_rise h1) h3 x hx with h4 | ⟨e, h4, _, rfl⟩
  · exact hs x h4
  · exact he e h4
theorem own_row1 (w : World) (a s : ByteArray) (b : Bool) : Sl 3 editC (w.alloc (.cells #[.string a, .string s, .bool b] 49)) (.slice (some ⟨w.heap.size, 0, none⟩) 1 1) [⟨a, s, b⟩] :=
  Own.sl (base := w.heap.size) (e := 49) editC_len (World.ownsRow_lit (base := w.heap.size) w #[.string a, .string s, .bool b] 1 (e := 49) (size := 3) (Nat.le_refl _) (by simp [maxLen]) rfl)
/-- a call that draws files -/
def DrawFs (n c : Nat) (W : World) (g : Nat) (v : Value) (bs : List UInt8) (p : Nat) (w : World) (e : Ending) (w' : World) : Prop :=
  ∃ (u : Value) (zs : List TFile) (q : Nat), zs.length ≤ n ∧ trShort zs ∧ q ≤ p + c ∧ e = .returned u ∧ Own 2 fileC 55 w.heap.size w' u zs ∧ Rd W g v bs q w' ∧ w.grownBy w' (some g)

set_option maxRecDepth 100000 in
set_option maxHeartbeats 2000000 in
theorem l20Files_calls (W : World) (g : Nat) (v : Value) (bs : List UInt8) (p : Nat) (w : World) (hr : Rd W g v bs p w) (hp : p ≤ 50000) :
    Calls Tryd.prog 74 #[.pointer (some ⟨g, 0, none⟩)] w (DrawFs 6 19 W g v bs p w) := by
  have hlt := hr.lt
  go_enter Tryd.func74, Tryd.ntmps74
  go_wp2_with fail
  refine (pick_calls W g v bs p 7 _ (Rd.al hr _) (by omega) (by omega) (by omega)).mono ?_
  rintro e w1 ⟨x, hx, rfl, hr1, hg1⟩
  have G1 := grown_trans (alloc_grown w _ (some g)) hg1
  obtain ⟨m, rfl⟩ := Int.eq_ofNat_of_zero_le hx.1
  go_wp2
  go_loopw [3, 4] (fun u i wr => ∃ (zs : List TFile) (q k : Nat), k ≤ 6 ∧ zs.length + k ≤ 6 ∧ trShort zs ∧ q + 3 * k ≤ p + 1 + 18 ∧ i = .int .i64 k ∧ Own 2 fileC 55 w.heap.size wr u zs ∧ Rd W g v bs q wr ∧ w.grownBy wr (some g)) (fun _ i _ => (intOf i).toNat)
  case atStart => exact ⟨[], p + 1, m, by omega, by simp; omega, trShort_nil, by omega, rfl, (World.ownsRow_lit w #[] 0 (Nat.le_refl _) (by simp [maxLen]) rfl).kept hg1 (Or.inr (by simp [Value.ownBlock]; omega)), hr1, G1⟩
  case round =>
    obtain ⟨zs, q, k, hk6, hk, hsh, hq, rfl, hown, hrr, hG⟩ := hrel
    have hrs := hrr.bel.size
    have hWw := hr.bel.size
    by_cases hlt : 0 < k
    · go_wp2_with fail
      refine (l20Edit_calls W g v bs q _ hrr (by omega)).mono ?_
      rintro e w2 ⟨a, s, b, q2, ha, hs, hq2, rfl, hr2, hg2⟩
      have hown2 := hown.grown hg2 (Or.inr (fun e => by have := (hown.lt g e).1; omega))
      have hG2 := grown_trans hG hg2
      have hB := al (below0 w2) (.cells #[.string a, .string s, .bool b] 49)
      have HC := Lib.hid (treTurn_spec _ _ zs [⟨a, s, b⟩] _ ((hown2.sl fileC_len).below hB) (own_row1 w2 a s b) (trShort_fine hsh) (edShort_fine (edShort_one ha hs)))
      go_wp2_with fail
      refine HC.out.mono ?_
      rintro e w3 ⟨v3, rfl, own3, b3⟩
      have hB3 := below_up hB b3
      have hr3 := hr2.below hB3
      have hG3 := grown_trans hG2 (grown_of_below hB3 _)
      have hown3 := hown2.below hB3
      have hz2 := hG2.size
      obtain ⟨k, rfl⟩ : ∃ j, k = j + 1 := ⟨k - 1, by omega⟩
      cases ht : turnT zs [⟨a, s, b⟩] with
      | none =>
        rw [ht] at own3
        clear HC own3
        go_wp2
        go_roundw
        case rel => exact ⟨zs, q2, k, by omega, by omega, hsh, by omega, by go_num, hown3, hr3, hG3⟩
        case measure => simp [intOf]
      | some M =>
        obtain ⟨t1, t2⟩ := turn_short ht hsh (fun e h => by simp at h; subst h; exact ⟨Nat.le_trans ha (by omega), Nat.le_trans hs (by omega)⟩)
        rw [ht] at own3
        have hz3 := hB.size
        have H3 := Lib.hid (own3.mono (show w.heap.size ≤ _ by omega))
        simp only [List.length_cons, List.length_nil] at t2
        clear HC own3 hown3
        go_wp2
        go_roundw
        case rel => exact ⟨M, q2, k, by omega, by omega, t1, by omega, by go_num, H3.out, hr3, hG3⟩
        case measure => simp [intOf]
    · obtain rfl : k = 0 := by omega
      go_wp2
      go_ret
      exact ⟨_, zs, q, by omega, hsh, by omega, rfl, hown, hrr, hG⟩
end Go.Proofs.YtkghhmjmfcnbnaaDoor
