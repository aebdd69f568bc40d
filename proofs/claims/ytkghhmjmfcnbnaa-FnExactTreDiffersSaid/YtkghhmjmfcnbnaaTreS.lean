/- spec's TreOk, by a plain function. -/
import Derived.Test.YtkghhmjmfcnbnaaTreL
import Derived.Test.YtkghhmjmfcnbnaaPthU
import Derived.BigQuiet
import Derived.IntWalk
namespace Go.Proofs.Ytkghhmjmfcnbnaa
open Go.RowKit

/-- files whose paths are not too long for the walks -/
def fileFine (zs : List TFile) : Prop := ∀ z ∈ zs, z.path.size ≤ 1048576 ∧ z.bytes.size ≤ maxLen
theorem fileFine_get {zs : List TFile} {z : TFile} {k : Nat} (h : fileFine zs) (hz : zs[k]? = some z) : z.path.size ≤ 1048576 ∧ z.bytes.size ≤ maxLen := h z (List.mem_of_getElem? hz)
theorem file_z {w : World} {v : Value} {zs : List TFile} (h : Sl 2 fileC w v zs) : ∃ A c, v = .slice A zs.length c ∧ c ≤ maxLen ∧ zs.length ≤ c ∧
    ∀ k, k < zs.length → ∃ (z : TFile) (b off : Nat), zs[k]? = some z ∧ A = some ⟨b, off, none⟩ ∧ b < w.heap.size ∧ w.cell? ⟨b, off + k * 2, none⟩ = some (.string z.path) ∧ w.cell? ⟨b, off + k * 2 + 1, none⟩ = some (.string z.bytes) := by
  obtain ⟨A, c, h1, h2, h3, h4⟩ := file_at h
  exact ⟨A, c, h1, h2, h3, fun k hk => by obtain ⟨p, q, b, off, h⟩ := h4 k hk; exact ⟨⟨p, q⟩, b, off, h⟩⟩
theorem fileB_no1 {z : TFile} (h : toL z.path = []) : fileB z = false := by unfold fileB; rw [h]; rfl
theorem fileB_no2 {z : TFile} (h : pthB z.path = false) : fileB z = false := by unfold fileB; rw [h]; simp
theorem fileB_no3 {z : TFile} (h : (6 : Int) < z.bytes.size) : fileB z = false := by
  have : decide (z.bytes.size ≤ 6) = false := by simp; omega
  unfold fileB; rw [this]; simp
theorem fileB_yes {z : TFile} (h1 : ¬ toL z.path = []) (h2 : pthB z.path = true) (h3 : ¬ (6 : Int) < z.bytes.size) : fileB z = true := by
  have e1 : (toL z.path).isEmpty = false := by rw [← isEmpty_toL]; exact empty_no h1
  have e2 : decide (z.bytes.size ≤ 6) = true := by simp; omega
  unfold fileB; rw [e1, h2, e2]; rfl
theorem prevB_zero (zs : List TFile) (z : TFile) : prevB zs 0 z = true := rfl
theorem prevB_get {zs : List TFile} {y z : TFile} {k : Nat} (hk : 0 < k) (hy : zs[k - 1]? = some y) : prevB zs k z = Op.bytesLess y.path.toList z.path.toList := by
  obtain ⟨j, rfl⟩ : ∃ j, k = j + 1 := ⟨k - 1, by omega⟩
  simp only [Nat.add_sub_cancel] at hy
  simp only [prevB, hy]
  rw [toL_toList, toL_toList]
theorem and_no1 {a b : Bool} (h : a = false) : (a && b) = false := by rw [h]; rfl
theorem and_no2 {a b : Bool} (h : b = false) : (a && b) = false := by rw [h]; simp
theorem and_yes {a b : Bool} (h : a = true) (k : b = true) : (a && b) = true := by rw [h, k]; rfl
theorem goodT_next {zs : List TFile} {z : TFile} {k : Nat} (hz : zs[k]? = some z) (h : goodT zs k = true) (hf : fileB z = true) (hp : prevB zs k z = true) : goodT zs (k + 1) = true := by rw [goodT_step hz, h, hf, hp]; rfl

/-- the region of the first loop is walked with what it needs at hand: here the call of PthOk alone -/
def TreRel (zs : List TFile) (W w : World) (i : Value) : Prop := ∃ k : Nat, k ≤ zs.length ∧ i = .int .i64 k ∧ goodT zs k = true ∧ Below W.heap.size W w
def TreRel2 (zs : List TFile) (W w : World) (i : Value) : Prop := ∃ k : Nat, 1 ≤ k ∧ (k ≤ zs.length ∨ k = 1) ∧ i = .int .i64 k ∧ adjT zs k = true ∧ Below W.heap.size W w
end Go.Proofs.Ytkghhmjmfcnbnaa
