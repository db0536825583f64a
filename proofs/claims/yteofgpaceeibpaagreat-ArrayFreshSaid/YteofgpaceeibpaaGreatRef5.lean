/- The reference's seal and open of a record. -/
import Derived.Test.YteofgpaceeibpaaGreatSumR
import Derived.Test.YteofgpaceeibpaaGreatOpen
namespace Go.Proofs.YteofgpaceeibpaaGreat.Ref5
open Go.RowKit Go.Proofs.YteofgpaceeibpaaGreat.Gab Go.Proofs.YteofgpaceeibpaaGreat.Wr Go.Proofs.YteofgpaceeibpaaGreat.Sum Go.Proofs.YteofgpaceeibpaaGreat.Fields Go.Proofs.YteofgpaceeibpaaGreat.Seal Go.Proofs.YteofgpaceeibpaaGreat.Ref Go.Proofs.YteofgpaceeibpaaGreat.SumR Go.Proofs.YteofgpaceeibpaaGreat.Open
set_option linter.unusedVariables false
set_option linter.unusedSimpArgs false

def rvals (h : Head) : Array Value := #[.int .i64 h.kind, .int .i64 h.epoch, .int .i64 h.batch, .int .i64 h.index, .int .i64 h.count, .int .i64 h.block, .int .i64 h.more]
theorem row_grow' {e : TypeId} {k : IntKind} {w wr w1 : World} {b : Nat} {v : Value} {xs : List Int} (h : Row e k wr b v xs) (hf : Fr None_ w wr) (hb : w.heap.size = b) (h1 : Fr (fun b => v.ownBlock = some b) wr w1) : Fr None_ w w1 := by
  subst hb
  exact row_grow h hf h1
theorem rd_two (w : World) (a b : Int) (e : TypeId) : Rd .u8 (w.alloc (.cells #[.int .u8 a, .int .u8 b] e)) (some ⟨w.heap.size, 0, none⟩) 2 [a, b] := by
  have h := heap_alloc_new w (.cells #[.int .u8 a, .int .u8 b] e)
  generalize w.alloc (.cells #[.int .u8 a, .int .u8 b] e) = W at *
  refine ⟨rfl, by decide, fun _ => ⟨_, rfl, fun j hj => ?_⟩⟩
  rw [add_at]
  match j, hj with
  | 0, _ => simp [World.cell?, h]
  | 1, _ => simp [World.cell?, h]
theorem seal_eq (h : Head) (data beside : List Int) : [] ++ le 22356 2 ++ [h.kind, 0] ++ le h.epoch 4 ++ le h.batch 4 ++ le h.index 2 ++ le h.count 2 ++ le h.block 4 ++ le h.more 4 = h.bytes ∨ ¬ h.Ok := by
  by_cases hk : h.Ok
  · left
    have := hk.kind
    simp [Head.bytes, les, le]
    omega
  · exact .inr hk

end Go.Proofs.YteofgpaceeibpaaGreat.Ref5
