/- A region that draws its order, whose operations only read and whose calls only make new memory: walked once, in the class of the worlds that are as one world was below its heap's size. No program stands in it. -/
import Derived.Test.YtkghhmjmfcnbnaaDoorMem
import Derived.BigQuiet
import Derived.Deep.QuietTactic
namespace Go.Proofs.YtkghhmjmfcnbnaaDoor
open Go.RowKit

/-- a world that is as wr was below wr's heap's size -/
structure Bel (wr : World) where
  w : World
  h : Below wr.heap.size wr w
instance (wr : World) : Nonempty (Bel wr) := ⟨⟨wr, Below.refl _ _⟩⟩
theorem Bel.cell {wr : World} {b o : Nat} {u : Value} (h : wr.cell? ⟨b, o, none⟩ = some u) (x : Bel wr) : x.w.cell? ⟨b, o, none⟩ = some u :=
  (x.h.cell (p := ⟨b, o, none⟩) (World.block_lt_of_cell? wr _ h)).trans h
theorem wp_region_bel {P : Program} {id : Nat} {Q : Exit → Act → World → Prop} {a : Act} {w : World} {l : List Oper} (hm : P.follows .mixedOrders = true) (hB : Region.lexB .any l.toArray = true)
    (h : wpQuiet P l.toArray (fun w' => ∃ x : Bel w, w' = x.w) (fun a' => ∀ w', (∃ x : Bel w, w' = x.w) → Q .normal a' w') l a) : (Code.region id l.toArray true).wp P Q a w :=
  wp_region_quiet (C := fun w' => ∃ x : Bel w, w' = x.w) hm hB ⟨⟨w.drew, (Below.refl _ _).drew⟩, rfl⟩ (by simpa using h)
theorem bel_call {P : Program} {f : FuncId} {args : Array Value} {wr : World} {v : Value} (x : Bel wr) (h : Calls P f args x.w fun e w' => e = .returned v ∧ Below x.w.heap.size x.w w') :
    Calls P f args x.w fun e w'' => e = .returned v ∧ ∃ y : Bel wr, w'' = y.w :=
  h.mono fun _ w' ⟨he, hb⟩ => ⟨he, ⟨w', below_up x.h hb⟩, rfl⟩
end Go.Proofs.YtkghhmjmfcnbnaaDoor
