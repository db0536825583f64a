/- stripe.Fill. -/
import Derived.Test.YtlhgbamajabnfaaPoint5
namespace Go.Proofs.Ytlhgbamajabnfaa.Point6
open Go.RowKit Go.Proofs.Ytlhgbamajabnfaa.Gab Go.Proofs.Ytlhgbamajabnfaa.Wr Go.Proofs.Ytlhgbamajabnfaa.Geom Go.Proofs.Ytlhgbamajabnfaa.Ref Go.Proofs.Ytlhgbamajabnfaa.Point1 Go.Proofs.Ytlhgbamajabnfaa.Fields
open Go.Proofs.Ytlhgbamajabnfaa.Str (pcells)
set_option linter.unusedVariables false
set_option linter.unusedSimpArgs false

def fillHead (epoch batch : Int) : Head := ⟨6, epoch, batch, 0, 0, 0, 0⟩
set_option maxHeartbeats 2000000 in
set_option maxRecDepth 100000 in
theorem Fill_calls (g : Geo) (epoch batch : Int) (n : Nat) (w : World) (h : g.Ok) (hn : g.s = n) :
    Calls Try.prog 70 #[g.val, .int .u32 epoch, .int .u32 batch] w fun e w' => ∃ v, e = .returned (.agg (pcells (fillHead epoch batch) v)) ∧ Row 5 .u8 w' w.heap.size v (List.replicate n 0) ∧ Fr None_ w w' := by
  have hs := h.s
  have hmk := Gab.run_make (P := Try.prog) 23 5 .u8 1 Try.underlying23 infoByte (by decide) n (by omega)
  have HN : As (n ≤ 1024) := ⟨by omega⟩
  unfold Geo.val
  rw [hn]
  clear h hs hn
  go_enter Try.func70, Try.ntmps70
  go_wp2
  have hz : ((w.alloc (.cells #[.int .i64 g.c, .int .i64 g.b, .int .i64 g.p, .int .i64 (n : Int)] 28)).alloc (.cells #[.int .u8 6, .int .u32 epoch, .int .u32 batch, .int .u16 0, .int .u16 0, .int .u32 0, .int .u32 0, .slice (some ⟨w.heap.size + 1 + 1, 0, none⟩) n n] 56)).heap.size = w.heap.size + 1 + 1 := size_new _ (size_new _ rfl)
  have hrow := Row.made ((w.alloc (.cells #[.int .i64 g.c, .int .i64 g.b, .int .i64 g.p, .int .i64 (n : Int)] 28)).alloc (.cells #[.int .u8 6, .int .u32 epoch, .int .u32 batch, .int .u16 0, .int .u16 0, .int .u32 0, .int .u32 0, .slice (some ⟨w.heap.size + 1 + 1, 0, none⟩) n n] 56)) w.heap.size 5 .u8 n (by rw [hz]; omega) (by have := HN.out; omega)
  rw [hz] at hrow
  exact bodyPost_ret (v := .agg #[.int .u8 6, .int .u32 epoch, .int .u32 batch, .int .u16 0, .int .u16 0, .int .u32 0, .int .u32 0, .slice (some ⟨w.heap.size + 1 + 1, 0, none⟩) n n]) (by simp [results, Try.results70, go_sem]) rfl ⟨.slice (some ⟨w.heap.size + 1 + 1, 0, none⟩) n n, rfl, hrow, (((Fr.refl None_ w).alloc _).alloc _).alloc _⟩
end Go.Proofs.Ytlhgbamajabnfaa.Point6
