/- What the small functions of layers 7 and 11 answer. -/
import Derived.Test.YtkjahaoobdbffaaB10
import Derived.Test.YtkjahaoobdbffaaM2
namespace Go.Proofs.Ytkjahaoobdbffaa
open Go Go.RowKit

def noGH : GH := fun _ => none
theorem sub_no (w : World) : Sub noGH w := fun _ _ h => by cases h

def inR (lo hi n : Int) : Bool := decide (n ≥ lo) && decide (n ≤ hi)

theorem f63_ok (n l : Int) (w : World) : Calls Try.prog 63 #[.int .i64 n, .int .i64 l] w fun e w' => e = .returned (.bool (inR l 1099511627776 n)) ∧ Below w.heap.size w w' := by
  refine Calls.enter (h := noGH) [.atom (.int .i64 n), .atom (.int .i64 l)] Try.func63 (c := bodyOf Try.f63) (by kernel_rfl) Try.ntmps63 ⟨rfl, rfl, trivial⟩ (by simp) (sub_no w) ?_
  refine G.runE tm 100 ?_
  exact G.ret Try.func63 Try.results63 (.bool (inR l 1099511627776 n)) (by kernel_rfl) fun w' hf _ => ⟨rfl, hf.below⟩

theorem f69_ok (n lo hi : Int) (w : World) : Calls Try.prog 69 #[.int .i64 n, .int .i64 lo, .int .i64 hi] w fun e w' => e = .returned (.bool (inR lo hi n)) ∧ Below w.heap.size w w' := by
  refine Calls.enter (h := noGH) [.atom (.int .i64 n), .atom (.int .i64 lo), .atom (.int .i64 hi)] Try.func69 (c := bodyOf Try.f69) (by kernel_rfl) Try.ntmps69 ⟨rfl, rfl, rfl, trivial⟩ (by simp) (sub_no w) ?_
  refine G.runE tm 100 ?_
  exact G.ret Try.func69 Try.results69 (.bool (inR lo hi n)) (by kernel_rfl) fun w' hf _ => ⟨rfl, hf.below⟩

def rulRight (r : Rul) : Bool :=
  decide (r.id ≥ 1) && decide (r.id ≤ 1099511627776) && decide (r.pri ≥ 0) && decide (r.pri ≤ 1000) && decide (r.act ≥ 0) && decide (r.act ≤ 255) && decide (r.sco ≥ 1) && decide (r.sco ≤ 65535) && decide ((r.pat.size : Int) ≤ 256)

theorem f66_ok (r : Rul) (w : World) : Calls Try.prog 66 #[rulV r] w fun e w' => e = .returned (.bool (rulRight r)) ∧ Below w.heap.size w w' := by
  refine Calls.enter (h := noGH) [.agg (rulC r)] Try.func66 (c := bodyOf Try.f66) (by kernel_rfl) Try.ntmps66 ⟨rulC_ok r _ _, trivial⟩ (by simp) (sub_no w) ?_
  refine G.runE tm 100 ?_
  exact G.ret Try.func66 Try.results66 (.bool (rulRight r)) (by kernel_rfl) fun w' hf _ => ⟨rfl, hf.below⟩

theorem f70_ok (r : Rul) (w : World) : Calls Try.prog 70 #[rulV r] w fun e w' => e = .returned (.bool (rulRight r)) ∧ Below w.heap.size w w' := by
  refine Calls.enter (h := noGH) [.agg (rulC r)] Try.func70 (c := bodyOf Try.f70) (by kernel_rfl) Try.ntmps70 ⟨rulC_ok r _ _, trivial⟩ (by simp) (sub_no w) ?_
  refine G.runE tm 100 ?_
  exact G.ret Try.func70 Try.results70 (.bool (rulRight r)) (by kernel_rfl) fun w' hf _ => ⟨rfl, hf.below⟩

def g63 : List SV1 → Option SV1
  | [.atom (.int .i64 n), .atom (.int .i64 l)] => some (.atom (.bool (inR l 1099511627776 n)))
  | _ => none
def g69 : List SV1 → Option SV1
  | [.atom (.int .i64 n), .atom (.int .i64 lo), .atom (.int .i64 hi)] => some (.atom (.bool (inR lo hi n)))
  | _ => none
def gRul : List SV1 → Option SV1
  | [.agg [.int .i64 a, .int .i64 b, .int .i64 c, .int .i64 d, .str p]] => some (.atom (.bool (rulRight ⟨a, b, c, d, p⟩)))
  | _ => none

theorem g63_ok : TabOk Try.prog (tabF 63 fun _ svs => g63 svs) := tabF_plain fun svs v hv => by
  unfold g63 at hv; split at hv
  · rename_i n l
    simp only [Option.some.injEq] at hv; subst hv
    exact ⟨_, _, rfl, fun _ _ => rfl, fun w => f63_ok n l w⟩
  · cases hv
theorem g69_ok : TabOk Try.prog (tabF 69 fun _ svs => g69 svs) := tabF_plain fun svs v hv => by
  unfold g69 at hv; split at hv
  · rename_i n lo hi
    simp only [Option.some.injEq] at hv; subst hv
    exact ⟨_, _, rfl, fun _ _ => rfl, fun w => f69_ok n lo hi w⟩
  · cases hv
theorem g66_ok : TabOk Try.prog (tabF 66 fun _ svs => gRul svs) := tabF_plain fun svs v hv => by
  unfold gRul at hv; split at hv
  · rename_i a b c d p
    simp only [Option.some.injEq] at hv; subst hv
    exact ⟨_, _, rfl, fun _ _ => rfl, fun w => f66_ok ⟨a, b, c, d, p⟩ w⟩
  · cases hv
theorem g70_ok : TabOk Try.prog (tabF 70 fun _ svs => gRul svs) := tabF_plain fun svs v hv => by
  unfold gRul at hv; split at hv
  · rename_i a b c d p
    simp only [Option.some.injEq] at hv; subst hv
    exact ⟨_, _, rfl, fun _ _ => rfl, fun w => f70_ok ⟨a, b, c, d, p⟩ w⟩
  · cases hv

def tab0 : Tab := tabOr (tabF 63 fun _ svs => g63 svs) (tabOr (tabF 69 fun _ svs => g69 svs) (tabOr (tabF 66 fun _ svs => gRul svs) (tabF 70 fun _ svs => gRul svs)))
theorem tab0_ok : TabOk Try.prog tab0 := tabOr_ok g63_ok (tabOr_ok g69_ok (tabOr_ok g66_ok g70_ok))

theorem f65_ok (r : Rul) (w : World) : Calls Try.prog 65 #[rulV r] w fun e w' => e = .returned (.bool (!rulRight r)) ∧ Below w.heap.size w w' := by
  refine Calls.enter (h := noGH) [.agg (rulC r)] Try.func65 (c := bodyOf Try.f65) (by kernel_rfl) Try.ntmps65 ⟨rulC_ok r _ _, trivial⟩ (by simp) (sub_no w) ?_
  refine G.runT tab0_ok tm 100 ?_
  exact G.ret Try.func65 Try.results65 (.bool (!rulRight r)) (by kernel_rfl) fun w' hf _ => ⟨rfl, hf.below⟩

theorem f68_ok (n : Int) (w : World) : Calls Try.prog 68 #[.int .i64 n] w fun e w' => e = .returned (.bool (!inR 1 1099511627776 n)) ∧ Below w.heap.size w w' := by
  refine Calls.enter (h := noGH) [.atom (.int .i64 n)] Try.func68 (c := bodyOf Try.f68) (by kernel_rfl) Try.ntmps68 ⟨rfl, trivial⟩ (by simp) (sub_no w) ?_
  refine G.runT tab0_ok tm 100 ?_
  exact G.ret Try.func68 Try.results68 (.bool (!inR 1 1099511627776 n)) (by kernel_rfl) fun w' hf _ => ⟨rfl, hf.below⟩
end Go.Proofs.Ytkjahaoobdbffaa
