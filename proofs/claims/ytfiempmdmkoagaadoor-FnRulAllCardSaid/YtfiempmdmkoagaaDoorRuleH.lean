/- The helpers of the laws over []RulRule: layout, sizes, copies, equality. By program (gen_help.py). -/
import Derived.Test.YtfiempmdmkoagaaDoorBase
import Derived.Test.YtfiempmdmkoagaaDoorMem
import Derived.Test.YtfiempmdmkoagaaDoorSum
import Derived.StillTailTactics
namespace Go.Proofs.YtfiempmdmkoagaaDoor
open Go.RowKit

structure TRule where
  user : Int
  ref : ByteArray
  path : ByteArray
  write : Bool
def ruleC (p : TRule) : List Value := [.int .i64 p.user, .string p.ref, .string p.path, .bool p.write]
theorem ruleC_len (p : TRule) : (ruleC p).length = 4 := rfl
def ruleT (p : TRule) : Nat := p.ref.size + p.path.size
theorem rule_at {w : World} {v : Value} {zs : List TRule} (h : Sl 4 ruleC w v zs) : ∃ A c, v = .slice A zs.length c ∧ c ≤ maxLen ∧ zs.length ≤ c ∧
    ∀ k, k < zs.length → ∃ user ref path write b off, zs[k]? = some ⟨user, ref, path, write⟩ ∧ A = some ⟨b, off, none⟩ ∧ b < w.heap.size ∧ w.cell? ⟨b, off + k * 4, none⟩ = some (.int .i64 user) ∧ w.cell? ⟨b, off + k * 4 + 1, none⟩ = some (.string ref) ∧ w.cell? ⟨b, off + k * 4 + 2, none⟩ = some (.string path) ∧ w.cell? ⟨b, off + k * 4 + 3, none⟩ = some (.bool write) := by
  obtain ⟨A, c, rfl, h1, h2, h3⟩ := h
  refine ⟨A, c, rfl, h2, h1, fun k hk => ?_⟩
  obtain ⟨b, off, rfl, hb, hat⟩ := h3 k _ (List.getElem?_eq_getElem hk)
  exact ⟨zs[k].user, zs[k].ref, zs[k].path, zs[k].write, b, off, List.getElem?_eq_getElem hk, rfl, hb, hat 0 _ rfl, hat 1 _ rfl, hat 2 _ rfl, hat 3 _ rfl⟩

theorem Tryd.infoRule : (Tryd.prog.info? 40).map (fun i => (i.zero, i.size, i.bytes)) = some (some (.agg #[.int .i64 0, .string ByteArray.empty, .string ByteArray.empty, .bool false]), 4, 48) := by kernel_rfl
theorem ruleZ : (Value.agg #[.int .i64 0, .string ByteArray.empty, .string ByteArray.empty, .bool false]).cells = (ruleC ⟨0, ByteArray.empty, ByteArray.empty, false⟩).toArray := rfl
end Go.Proofs.YtfiempmdmkoagaaDoor
