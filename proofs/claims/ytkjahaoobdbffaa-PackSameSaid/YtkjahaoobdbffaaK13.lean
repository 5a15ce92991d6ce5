/- The document's Right, on a copy. -/
import Derived.Test.YtkjahaoobdbffaaK2
import Derived.Test.YtkjahaoobdbffaaK4
namespace Go.Proofs.Ytkjahaoobdbffaa
open Go Go.RowKit
attribute [local irreducible] G GD GDop

def bad1 (e : Ent) : Bool := !inR 0 1099511627776 e.view || !inR 1 1099511627776 e.client || !inR 1 1099511627776 e.request || decide ((e.put.length : Int) > 16) || decide ((e.drop.length : Int) > 16)
def bad2 (e : Ent) : Bool := !inR (-1) 1099511627776 e.dflt || !inR (-1) 1099511627776 e.closed || !inR (-1) 1099511627776 e.fuel || !inR (-1) 1099511627776 e.stack

theorem entRight_of (e : Ent) : entRight e = (!bad1 e && !bad2 e && e.put.all rulRight && e.drop.all (fun n => inR 1 1099511627776 n)) := by
  unfold entRight bad1 bad2
  rw [List.any_eq_not_all_not, List.any_eq_not_all_not]
  rw [Bool.eq_iff_iff]
  simp
  intro _ _
  constructor
  · rintro ⟨⟨⟨⟨⟨⟨⟨⟨h1, h2⟩, h3⟩, h4⟩, h5⟩, h6⟩, h7⟩, h8⟩, h9⟩
    exact ⟨⟨⟨⟨⟨h1, h2⟩, h3⟩, h8⟩, h9⟩, ⟨⟨h4, h5⟩, h6⟩, h7⟩
  · rintro ⟨⟨⟨⟨⟨h1, h2⟩, h3⟩, h8⟩, h9⟩, ⟨⟨h4, h5⟩, h6⟩, h7⟩
    exact ⟨⟨⟨⟨⟨⟨⟨⟨h1, h2⟩, h3⟩, h4⟩, h5⟩, h6⟩, h7⟩, h8⟩, h9⟩

section s
variable {h : GH} {w : World}

theorem f19_ok {p d : Value} {e : Ent} (hp : SlR h 5 RulR p e.put) (hd : SlR h 1 IntR d e.drop) (hs : Sub h w) :
    Calls Try.prog 19 #[entV e p d] w fun e' w' => e' = .returned (.bool (entRight e)) ∧ Below w.heap.size w w' := by
  have l1 := hp.len
  have l2 := hd.len
  refine Calls.enter [.agg (entC e p d)] Try.func19 (c := bodyOf Try.f19) (by kernel_rfl) Try.ntmps19 ⟨entC_ok hp hd _ _, trivial⟩ (by simp) hs ?_
  refine G.runT tab0_ok tm 100 ?_
  refine G.cond (bad1 e) (by kernel_rfl) (fun hc => ?_) (fun hc => ?_)
  · refine G.runE tm 100 ?_
    exact G.ret Try.func19 Try.results19 (.bool false) (by kernel_rfl) fun w' hf _ => ⟨by rw [entRight_of, hc]; rfl, hf.below⟩
  refine G.runT tab0_ok tm 100 ?_
  refine G.cond (bad2 e) (by kernel_rfl) (fun hc2 => ?_) (fun hc2 => ?_)
  · refine G.runE tm 100 ?_
    exact G.ret Try.func19 Try.results19 (.bool false) (by kernel_rfl) fun w' hf _ => ⟨by rw [entRight_of, hc2]; simp, hf.below⟩
  refine G.runE tm 100 ?_
  refine G.loop (α := Nat) (fun i => ⟨[(3, .one (.atom (.ptr 1 0))), (4, .one (.atom (.int .i64 i)))], [(1, ⟨none, .lit 37 (delC e p d)⟩)], 2, []⟩)
    (fun i g => g = h ∧ i ≤ e.put.length ∧ (e.put.take i).all rulRight = true) (fun i => e.put.length - i) 0 [3, 4] [1] 2 [] (by kernel_rfl) (by kernel_rfl) (by kernel_rfl) ⟨rfl, Nat.zero_le _, by simp⟩ ?_
  rintro i g ⟨rfl, hi, hall⟩ IH
  refine G.runE tm 100 ?_
  refine G.cond (decide ((i : Int) < (e.put.length : Int))) (by kernel_rfl) (fun hb => ?_) (fun hb => ?_)
  · have hlt : i < e.put.length := by simpa using hb
    obtain ⟨r, hr⟩ := get_of_lt hlt
    refine G.runE tm 100 ?_
    refine G.idx (d1 := some 68) (g := none) (T := 35) (E := 124) hp Try.underlying35 z124 hlt (by kernel_rfl) (by kernel_rfl) ?_
    refine G.elRul (d1 := some 69) (g := none) (E := 124) hp z124 u124 hr (by kernel_rfl) (by kernel_rfl) ?_
    refine G.runT tab0_ok tm 100 ?_
    refine G.cond (!rulRight r) (by kernel_rfl) (fun hb => ?_) (fun hb => ?_)
    · refine G.runE tm 100 ?_
      refine G.ret Try.func19 Try.results19 (.bool false) (by kernel_rfl) fun w' hf _ => ⟨?_, hf.below⟩
      rw [entRight_of, all_false hr (by simpa using hb)]; simp
    · refine G.runE tm 100 ?_
      refine G.reint (k := .i64) 4 (by kernel_rfl) (wrap_succ hlt l1) ?_
      exact G.back (by kernel_rfl) [3, 4] [1] 2 [] (by kernel_rfl) (by kernel_rfl) (IH (i + 1) _ ⟨rfl, hlt, all_take_succ hr hall (by simpa using hb)⟩ (by omega))
  · obtain rfl : i = e.put.length := by simp at hb; omega
    rw [List.take_length] at hall
    refine G.runE tm 100 ?_
    refine G.loop (α := Nat) (fun i => ⟨[(3, .one (.atom (.ptr 1 0))), (5, .one (.atom (.int .i64 i)))], [(1, ⟨none, .lit 37 (delC e p d)⟩)], 2, []⟩)
      (fun i g' => g' = g ∧ i ≤ e.drop.length ∧ (e.drop.take i).all (fun n => inR 1 1099511627776 n) = true) (fun i => e.drop.length - i) 0 [3, 5] [1] 2 [] (by kernel_rfl) (by kernel_rfl) (by kernel_rfl) ⟨rfl, Nat.zero_le _, by simp⟩ ?_
    rintro i g' ⟨rfl, hi, hdall⟩ IH
    refine G.runE tm 100 ?_
    refine G.cond (decide ((i : Int) < (e.drop.length : Int))) (by kernel_rfl) (fun hb => ?_) (fun hb => ?_)
    · have hlt : i < e.drop.length := by simpa using hb
      obtain ⟨n, hr⟩ := get_of_lt hlt
      refine G.runE tm 100 ?_
      refine G.idx (d1 := some 82) (g := none) (T := 30) (E := 3) hd Try.underlying30 z3 hlt (by kernel_rfl) (by kernel_rfl) ?_
      refine G.elInt (d1 := some 83) (g := none) (E := 3) hd u3 hr (by kernel_rfl) (by kernel_rfl) ?_
      refine G.runT tab0_ok tm 100 ?_
      refine G.cond (!inR 1 1099511627776 n) (by kernel_rfl) (fun hb => ?_) (fun hb => ?_)
      · refine G.runE tm 100 ?_
        refine G.ret Try.func19 Try.results19 (.bool false) (by kernel_rfl) fun w' hf _ => ⟨?_, hf.below⟩
        rw [entRight_of, all_false (p := fun n => inR 1 1099511627776 n) hr (by simpa using hb)]; simp
      · refine G.runE tm 100 ?_
        refine G.reint (k := .i64) 5 (by kernel_rfl) (wrap_succ hlt l2) ?_
        exact G.back (by kernel_rfl) [3, 5] [1] 2 [] (by kernel_rfl) (by kernel_rfl) (IH (i + 1) _ ⟨rfl, hlt, all_take_succ (p := fun n => inR 1 1099511627776 n) hr hdall (by simpa using hb)⟩ (by omega))
    · obtain rfl : i = e.drop.length := by simp at hb; omega
      rw [List.take_length] at hdall
      refine G.runE tm 100 ?_
      exact G.ret Try.func19 Try.results19 (.bool true) (by kernel_rfl) fun w' hf _ => ⟨by rw [entRight_of, hc, hc2, hall, hdall]; rfl, hf.below⟩
end s
end Go.Proofs.Ytkjahaoobdbffaa
