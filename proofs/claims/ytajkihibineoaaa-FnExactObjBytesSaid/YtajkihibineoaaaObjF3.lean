/- That the reading of a sheet by the reference ends without a panic, whatever the text: spec.l2Read, spec.ObjEntries, spec.ObjKind. -/
import Derived.Test.YtajkihibineoaaaObjF2
import Derived.Test.YtajkihibineoaaaStr
namespace Go.Proofs.Ytajkihibineoaaa
open Go.RowKit

theorem Try.infoEnt : (Try.prog.info? 100).map (fun i => (i.zero, i.size, i.bytes)) = some (some (.agg #[.string ByteArray.empty, .bool false, .int .i64 0]), 3, 32) := by kernel_rfl
/-- some entries and a bool -/
def RdS (w : World) (e : Ending) (w' : World) : Prop := ∃ (v : Value) (zs : List TEnt) (b : Bool), e = .returned (.tuple #[v, .bool b]) ∧ Own 3 entC 100 w.heap.size w' v zs ∧ (∀ z ∈ zs, z.name.size ≤ 721) ∧ Below w.heap.size w w'
theorem own_zero (w W : World) (t : TypeId) (h : W.heap.size ≤ w.heap.size) : Own 3 entC t W.heap.size (w.alloc (.cells #[] t)) (.slice (some ⟨w.heap.size, 0, none⟩) 0 0) [] := World.ownsRow_lit w #[] 0 h (by simp [maxLen]) rfl

theorem ents_more {zs : List TEnt} {a : TEnt} (h : ∀ z ∈ zs, z.name.size ≤ 721) (ha : a.name.size ≤ 721) : ∀ z ∈ zs ++ [a], z.name.size ≤ 721 := by
  intro z hz
  rcases List.mem_append.1 hz with h1 | h1
  · exact h z h1
  · simp at h1; subst h1; exact ha
set_option maxRecDepth 100000 in
set_option maxHeartbeats 1000000 in
theorem l2Read_calls (s : ByteArray) (w : World) (hs : s.size ≤ 721) : Calls Try.prog 76 #[.string s] w (RdS w) := by
  obtain ⟨i0, hi, hz0, hz1, hz2⟩ := info_parts Try.infoEnt
  have hcv := conv1
  go_enter Try.func76, Try.ntmps76
  go_wp2
  go_loopw [4, 5, 6] (fun o m i wr => ∃ (k : Nat) (name : ByteArray) (zs : List TEnt), (1 ≤ k ∧ k ≤ s.size + 1) ∧ i = .int .i64 k ∧ m = .string name ∧ name.size + 1 ≤ k ∧ zs.length ≤ k ∧ (∀ z ∈ zs, z.name.size ≤ 721) ∧ wr.ownsRow w.heap.size 100 3 o zs.length (zs.flatMap entC) ∧ Below w.heap.size w wr) (fun _ _ i _ => s.size + 1 - (intOf i).toNat)
  case atStart => exact ⟨1, ByteArray.empty, [], by omega, rfl, rfl, by simp, by simp, (fun z hz => by cases hz), own_zero w w _ (Nat.le_refl _), al (below0 w) _⟩
  case round =>
    obtain ⟨k, name, zs, ⟨hk1, hk2⟩, rfl, rfl, hnm, hzl, hzs, hown, hnx⟩ := hrel
    have HZ := Lib.hid hzs
    clear hzs
    by_cases hlt : k < s.size
    · have hc := s[k].toNat_lt
      by_cases hm : (s[k].toNat : Int) = 61 ∨ (s[k].toNat : Int) = 47
      · by_cases h61 : (s[k].toNat : Int) = 61
        · have e1 : ((s[k].toNat : Int) == 61) = true := by simp; omega
          have e2 : ((s[k].toNat : Int) == 47) = false := by simp; omega
          clear hm h61
          by_cases h9 : k + 9 ≤ s.size
          · go_wp2_with fail
            refine (idRead_calls _ _).mono ?_
            rintro e w1 ⟨n, ok, hn, rfl, rfl⟩
            cases ok
            · go_wp2
              go_ret2
              exact ⟨_, [], false, rfl, own_zero _ w _ hnx.size, (fun z hz => by cases hz), al hnx _⟩
            · go_wp2_with (at_builtin; refine wpList_append_own _ rfl _ _ 91 rfl w.heap.size 100 i0 _ 3 32 Try.underlying91 hi hz0 hz1 hz2 rfl (by decide) _ _ _ rfl (hown.alloc _) ⟨wr.heap.size, 0, none⟩ 1 1 [.string name, .bool false, .int .i64 n] rfl rfl (news_new _ #[.string name, .bool false, .int .i64 n] _ _ (by simp)) (by intro u hu; simp at hu; rcases hu with rfl | rfl | rfl <;> rfl) (by unfold maxLen; omega) (by omega) (by have := hnx.size; simp; omega) ?_; intro v1 w1 hown1 hgrow1 _)
              have hb1 := app_step hnx hown (al (below0 _) _) hgrow1
              clear hgrow1 hnx hown
              go_roundw
              case rel => exact ⟨k + 9, ByteArray.empty, zs ++ [⟨name, false, n⟩], by omega, by go_num, rfl, by (first | (simp; omega) | simp), by simp; omega, ents_more HZ.out (by show name.size ≤ 721; omega), by simpa [entC] using hown1, hb1⟩
              case measure => simp [intOf]; omega
          · go_wp2
            go_ret2
            exact ⟨_, [], false, rfl, own_zero _ w _ hnx.size, (fun z hz => by cases hz), al hnx _⟩
        · have e1 : ((s[k].toNat : Int) == 61) = false := by simp; omega
          have e2 : ((s[k].toNat : Int) == 47) = true := by simp; omega
          clear hm h61
          by_cases h9 : k + 9 ≤ s.size
          · go_wp2_with fail
            refine (idRead_calls _ _).mono ?_
            rintro e w1 ⟨n, ok, hn, rfl, rfl⟩
            cases ok
            · go_wp2
              go_ret2
              exact ⟨_, [], false, rfl, own_zero _ w _ hnx.size, (fun z hz => by cases hz), al hnx _⟩
            · go_wp2_with (at_builtin; refine wpList_append_own _ rfl _ _ 91 rfl w.heap.size 100 i0 _ 3 32 Try.underlying91 hi hz0 hz1 hz2 rfl (by decide) _ _ _ rfl (hown.alloc _) ⟨wr.heap.size, 0, none⟩ 1 1 [.string name, .bool true, .int .i64 n] rfl rfl (news_new _ #[.string name, .bool true, .int .i64 n] _ _ (by simp)) (by intro u hu; simp at hu; rcases hu with rfl | rfl | rfl <;> rfl) (by unfold maxLen; omega) (by omega) (by have := hnx.size; simp; omega) ?_; intro v1 w1 hown1 hgrow1 _)
              have hb1 := app_step hnx hown (al (below0 _) _) hgrow1
              clear hgrow1 hnx hown
              go_roundw
              case rel => exact ⟨k + 9, ByteArray.empty, zs ++ [⟨name, true, n⟩], by omega, by go_num, rfl, by (first | (simp; omega) | simp), by simp; omega, ents_more HZ.out (by show name.size ≤ 721; omega), by simpa [entC] using hown1, hb1⟩
              case measure => simp [intOf]; omega
          · go_wp2
            go_ret2
            exact ⟨_, [], false, rfl, own_zero _ w _ hnx.size, (fun z hz => by cases hz), al hnx _⟩
      · have hm1 : ((s[k].toNat : Int) == 61) = false := by simp; omega
        have hm2 : ((s[k].toNat : Int) == 47) = false := by simp; omega
        have hs1 := strOfNums_size [(s[k].toNat : Int)]
        have hs1b : (strOfNums [(s[k].toNat : Int)]).size ≤ 1 := by rw [hs1]; simp
        clear hs1 hm
        go_wp2
        go_roundw
        case rel => exact ⟨k + 1, _, zs, by omega, by go_num, rfl, by (rw [ByteArray.size_append]; omega), by omega, HZ.out, hown.alloc _, al hnx _⟩
        case measure => simp [intOf]; omega
    · go_wp2
      go_ret2
      exact ⟨_, zs, _, rfl, hown, HZ.out, hnx⟩

/-- a call that ends and makes new memory alone -/
def Ends (w : World) (e : Ending) (w' : World) : Prop := ∃ (v : Value) (b : Bool), e = .returned (.tuple #[v, .bool b]) ∧ Below w.heap.size w w'
set_option maxRecDepth 100000 in
theorem objEntries_calls (s : ByteArray) (w : World) (hs : s.size ≤ 1048576) : Calls Try.prog 73 #[.string s] w (Ends w) := by
  by_cases h0 : 0 < s.size
  · have hz : ((s.size : Int) == 0) = false := beq_eq_false_iff_ne.2 (by omega)
    by_cases hS : (s[0].toNat : Int) = 83
    · have hS2 : ((s[0].toNat : Int) != 83) = false := by simp; omega
      by_cases hb : s.size ≤ 721
      · have hb2 : decide (721 < s.size) = false := by simp; omega
        clear hS
        go_enter Try.func73, Try.ntmps73
        go_wp2_with fail
        refine (l2Read_calls s _ hb).mono ?_
        rintro e w1 ⟨v, zs, ok, rfl, ho, hn, hb1⟩
        have hsl := ho.sl entC_len
        cases ok
        · go_wp2
          go_ret2
          exact ⟨_, false, rfl, al hb1 _⟩
        · go_wp2_with fail
          refine (objSheet_calls v zs _ hsl hn).mono ?_
          rintro e w2 ⟨t, ht, rfl, hb2⟩
          have hbb := below_up hb1 hb2
          by_cases hst : t = s
          · have hq := beq_of_eq hst
            go_wp2
            go_ret2
            exact ⟨_, true, rfl, hbb⟩
          · have hq := beq_of_ne hst
            go_wp2
            go_ret2
            exact ⟨_, false, rfl, al hbb _⟩
      · have hb2 : decide (721 < s.size) = true := by simp; omega
        clear hS
        go_enter Try.func73, Try.ntmps73
        go_wp2
        go_ret2
        exact ⟨_, false, rfl, al (below0 w) _⟩
    · have hS2 : ((s[0].toNat : Int) != 83) = true := by simp; omega
      clear hS
      go_enter Try.func73, Try.ntmps73
      go_wp2
      go_ret2
      exact ⟨_, false, rfl, al (below0 w) _⟩
  · have hz : ((s.size : Int) == 0) = true := beq_iff_eq.2 (by omega)
    go_enter Try.func73, Try.ntmps73
    go_wp2
    go_ret2
    exact ⟨_, false, rfl, al (below0 w) _⟩
end Go.Proofs.Ytajkihibineoaaa
