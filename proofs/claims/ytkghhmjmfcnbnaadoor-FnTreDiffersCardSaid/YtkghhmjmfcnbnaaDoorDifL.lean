/- Where trees differ, and which names stand behind a path: plain functions. No walk stands in it. -/
import Derived.Test.YtkghhmjmfcnbnaaDoorOrdB
import Derived.Test.YtkghhmjmfcnbnaaDoorTreL
import Derived.Test.YtkghhmjmfcnbnaaDoorFindF
namespace Go.Proofs.YtkghhmjmfcnbnaaDoor
open Go.RowKit

/-- a text of each file that is chosen -/
def selL (p : TFile → Bool) (f : TFile → ByteArray) (zs : List TFile) : List ByteArray := (zs.filter p).map f
theorem selL_keep {p : TFile → Bool} {f : TFile → ByteArray} {zs : List TFile} {z : TFile} {k : Nat} (hz : zs[k]? = some z) (h : p z = true) : selL p f (zs.take (k + 1)) = selL p f (zs.take k) ++ [f z] := by
  rw [take_one hz, selL, List.filter_append]
  simp [selL, h]
theorem selL_drop {p : TFile → Bool} {f : TFile → ByteArray} {zs : List TFile} {z : TFile} {k : Nat} (hz : zs[k]? = some z) (h : p z = false) : selL p f (zs.take (k + 1)) = selL p f (zs.take k) := by
  rw [take_one hz, selL, List.filter_append]
  simp [selL, h]
theorem selL_len (p : TFile → Bool) (f : TFile → ByteArray) (zs : List TFile) : (selL p f zs).length ≤ zs.length := by
  unfold selL
  rw [List.length_map]
  exact List.length_filter_le _ _
theorem selL_take (p : TFile → Bool) (f : TFile → ByteArray) (zs : List TFile) (k : Nat) : (selL p f (zs.take k)).length ≤ k := Nat.le_trans (selL_len p f _) (List.length_take_le _ _)
theorem selL_nil (p : TFile → Bool) (f : TFile → ByteArray) (zs : List TFile) : selL p f (zs.take 0) = [] := rfl
/-- has the file other bytes there, or no place -/
def difF (b : List TFile) (z : TFile) : Bool := !(fgetF b z.path).2 || !decide ((fgetF b z.path).1 = z.bytes)
/-- has it no place there -/
def newF (a : List TFile) (z : TFile) : Bool := !(fgetF a z.path).2
theorem difF_no {b : List TFile} {z : TFile} (h : fgetF b z.path = (ByteArray.empty, false)) : difF b z = true := by unfold difF; rw [h]; rfl
theorem difF_ne {b : List TFile} {z f : TFile} (h : fgetF b z.path = (f.bytes, true)) (k : ¬ f.bytes = z.bytes) : difF b z = true := by unfold difF; rw [h]; simp [k]
theorem difF_eq {b : List TFile} {z f : TFile} (h : fgetF b z.path = (f.bytes, true)) (k : f.bytes = z.bytes) : difF b z = false := by unfold difF; rw [h]; simp [k]
theorem newF_no {a : List TFile} {z : TFile} (h : fgetF a z.path = (ByteArray.empty, false)) : newF a z = true := by unfold newF; rw [h]; rfl
theorem newF_yes {a : List TFile} {z f : TFile} (h : fgetF a z.path = (f.bytes, true)) : newF a z = false := by unfold newF; rw [h]; rfl
/-- the paths at which trees differ, as they come -/
def difL (a b : List TFile) : List ByteArray := selL (difF b) (·.path) a ++ selL (newF a) (·.path) b
/-- the same, in order, each once -/
def difB (a b : List TFile) : List ByteArray := setB (difL a b)
theorem difL_len (a b : List TFile) : (difL a b).length ≤ a.length + b.length := by
  unfold difL
  rw [List.length_append]
  have h1 := selL_len (difF b) (·.path) a
  have h2 := selL_len (newF a) (·.path) b
  omega
theorem difB_len (a b : List TFile) : (difB a b).length ≤ a.length + b.length := Nat.le_trans (setB_len _) (difL_len a b)

/-- stands the file behind a path, and not at it -/
def behF (q : ByteArray) (z : TFile) : Bool := undB q z.path && !decide (q = z.path)
/-- what is behind q of a path -/
def restF (q p : ByteArray) : ByteArray := if toL q = [] then p else p.extract (q.size + 1) p.size
def namesL (q : ByteArray) (zs : List TFile) : List ByteArray := selL (behF q) (fun z => firstB (restF q z.path)) zs
def namesB (q : ByteArray) (zs : List TFile) : List ByteArray := setB (namesL q zs)
theorem namesL_len (q : ByteArray) (zs : List TFile) : (namesL q zs).length ≤ zs.length := selL_len _ _ _
theorem namesB_len (q : ByteArray) (zs : List TFile) : (namesB q zs).length ≤ zs.length := Nat.le_trans (setB_len _) (namesL_len q zs)
theorem behF_no1 {q : ByteArray} {z : TFile} (h : undB q z.path = false) : behF q z = false := by unfold behF; rw [h]; rfl
theorem behF_no2 {q : ByteArray} {z : TFile} (h : q = z.path) : behF q z = false := by unfold behF; simp [h]
theorem behF_yes {q : ByteArray} {z : TFile} (h : undB q z.path = true) (k : ¬ q = z.path) : behF q z = true := by unfold behF; rw [h]; simp [k]
theorem restF_nil {q p : ByteArray} (h : toL q = []) : restF q p = p := if_pos h
theorem restF_yes {q p : ByteArray} (h : ¬ toL q = []) : restF q p = p.extract (q.size + 1) p.size := if_neg h
theorem restF_size (q p : ByteArray) : (restF q p).size ≤ p.size := by
  unfold restF
  split
  · exact Nat.le_refl _
  · rw [ByteArray.size_extract]; omega
/-- a path under q and not at it goes on behind a stroke -/
theorem und_form {q p : ByteArray} (h : undB q p = true) (h0 : ¬ toL q = []) (hn : ¬ q = p) : ∃ t, toL p = toL q ++ 47 :: t := by
  have h' : undL (toL q) (toL p) = true := h
  rw [undL_iff] at h'
  rcases h'.2.2 with e | e | e
  · exact absurd e h0
  · exact absurd (toL_inj e) hn
  · exact e
theorem und_long {q p : ByteArray} (h : undB q p = true) (h0 : ¬ toL q = []) (hn : ¬ q = p) : q.size + 1 ≤ p.size := by
  obtain ⟨t, e⟩ := und_form h h0 hn
  have := congrArg List.length e
  rw [List.length_append, toL_len, toL_len, List.length_cons] at this
  omega
end Go.Proofs.YtkghhmjmfcnbnaaDoor
