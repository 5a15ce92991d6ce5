/- Logs that are small. -/
import Derived.Test.YtkjahaoobdbffaaK2
namespace Go.Proofs.Ytkjahaoobdbffaa
open Go Go.RowKit
attribute [local irreducible] G GD GDop

def smallR (r : Rul) : Bool := decide (r.pat.size ≤ 300)
def smallE (e : Ent) : Bool := decide (e.put.length ≤ 20) && decide (e.drop.length ≤ 20) && e.put.all smallR
def smallLog (l : List Ent) : Bool := l.all smallE && decide (l.length ≤ 70)

theorem smallLog_ok {h : GH} {v : Value} {l : List Ent} (hl : EntsR h v l) {w : World} (hs : Sub h w) :
    Calls Try.prog 14 #[v] w fun e w' => e = .returned (.bool (smallLog l)) ∧ Below w.heap.size w w' := by
  have hlen := SlR.len hl
  refine Calls.enter [.atom (.sl v l.length)] Try.func14 (c := bodyOf Try.f14) (by kernel_rfl) Try.ntmps14 ⟨hl.sv _ _, trivial⟩ (by simp) hs ?_
  refine G.runE tm 100 ?_
  refine G.loop (α := Nat) (fun i => ⟨[(0, .one (.atom (.sl v l.length))), (7, .one (.atom (.sl v l.length))), (8, .one (.atom (.int .i64 l.length))), (9, .one (.atom (.int .i64 i)))], [], 0, []⟩)
    (fun i h' => h' = h ∧ i ≤ l.length ∧ (l.take i).all smallE = true) (fun i => l.length - i) 0 [0, 7, 8, 9] [] 0 [] (by kernel_rfl) (by kernel_rfl) (by kernel_rfl) ⟨rfl, Nat.zero_le _, by simp⟩ ?_
  rintro i h' ⟨rfl, hi, hall⟩ IH
  refine G.runE tm 100 ?_
  refine G.cond (decide ((i : Int) < (l.length : Int))) (by kernel_rfl) (fun hb => ?_) (fun hb => ?_)
  · have hlt : i < l.length := by simpa using hb
    obtain ⟨e, he⟩ : ∃ e, l[i]? = some e := ⟨l[i], by simp [hlt]⟩
    refine G.runE tm 100 ?_
    refine G.idx (d1 := some 11) (g := none) (T := 22) (E := 34) hl Try.underlying22 z34 hlt (by kernel_rfl) (by kernel_rfl) ?_
    refine G.elEnt (d1 := some 12) (g := none) (E := 34) hl z34 u34 he (by kernel_rfl) (by kernel_rfl) fun p d hp hd => ?_
    refine G.runE tm 100 ?_
    refine G.cond (decide ((e.put.length : Int) > 20) || decide ((e.drop.length : Int) > 20)) (by kernel_rfl) (fun hb => ?_) (fun hb => ?_)
    · refine G.runE tm 100 ?_
      refine G.ret Try.func14 Try.results14 (.bool false) (by kernel_rfl) fun w' hf _ => ⟨?_, hf.below⟩
      have : smallE e = false := by
        simp only [Bool.or_eq_true, decide_eq_true_eq] at hb
        unfold smallE
        rcases hb with hb | hb
        · have : ¬ e.put.length ≤ 20 := by omega
          simp [this]
        · have : ¬ e.drop.length ≤ 20 := by omega
          simp [this]
      simp [smallLog, all_false he this]
    · refine G.runE tm 100 ?_
      have hplen := hp.len
      refine G.loop (α := Nat) (fun j => ⟨[(0, .one (.atom (.sl v l.length))), (7, .one (.atom (.sl v l.length))), (8, .one (.atom (.int .i64 l.length))), (9, .one (.atom (.int .i64 i))),
          (27, .one (.atom (.sl p e.put.length))), (28, .one (.atom (.int .i64 e.put.length))), (29, .one (.atom (.int .i64 j)))], [], 0, []⟩)
        (fun j g => g = h' ∧ j ≤ e.put.length ∧ (e.put.take j).all smallR = true) (fun j => e.put.length - j) 0 [0, 7, 8, 9, 27, 28, 29] [] 0 [] (by kernel_rfl) (by kernel_rfl) (by kernel_rfl) ⟨rfl, Nat.zero_le _, by simp⟩ ?_
      rintro j g ⟨rfl, hj, hjall⟩ IH2
      refine G.runE tm 100 ?_
      refine G.cond (decide ((j : Int) < (e.put.length : Int))) (by kernel_rfl) (fun hb => ?_) (fun hb => ?_)
      · have hjlt : j < e.put.length := by simpa using hb
        obtain ⟨r, hr⟩ : ∃ r, e.put[j]? = some r := ⟨e.put[j], by simp [hjlt]⟩
        refine G.runE tm 100 ?_
        refine G.idx (d1 := some 31) (g := none) (T := 29) (E := 114) hp Try.underlying29 z114 hjlt (by kernel_rfl) (by kernel_rfl) ?_
        refine G.elRul (d1 := some 32) (g := none) (E := 114) hp z114 u114 hr (by kernel_rfl) (by kernel_rfl) ?_
        refine G.runE tm 100 ?_
        refine G.cond (decide ((r.pat.size : Int) > 300)) (by kernel_rfl) (fun hb => ?_) (fun hb => ?_)
        · refine G.runE tm 100 ?_
          refine G.ret Try.func14 Try.results14 (.bool false) (by kernel_rfl) fun w' hf _ => ⟨?_, hf.below⟩
          have h1 : smallR r = false := by simp [smallR] at hb ⊢; omega
          have h2 : smallE e = false := by simp [smallE, all_false hr h1]
          simp [smallLog, all_false he h2]
        · have h1 : smallR r = true := by simp [smallR] at hb ⊢; omega
          refine G.runE tm 100 ?_
          refine G.reint (k := .i64) 29 (by kernel_rfl) (wrap_succ hjlt hplen) ?_
          refine G.back (by kernel_rfl) [0, 7, 8, 9, 27, 28, 29] [] 0 [] (by kernel_rfl) (by kernel_rfl) (IH2 (j + 1) _ ⟨rfl, hjlt, all_take_succ hr hjall h1⟩ (by omega))
      · have hje : j = e.put.length := by simp at hb; omega
        subst hje
        have hE : smallE e = true := by
          rename_i hb0
          simp at hb0
          have := hjall
          rw [List.take_length] at this
          simp [smallE, this]; omega
        refine G.runE tm 100 ?_
        refine G.reint (k := .i64) 9 (by kernel_rfl) (wrap_succ hlt hlen) ?_
        refine G.back (by kernel_rfl) [0, 7, 8, 9] [] 0 [] (by kernel_rfl) (by kernel_rfl) (IH (i + 1) _ ⟨rfl, hlt, all_take_succ he hall hE⟩ (by omega))
  · have hie : i = l.length := by simp at hb; omega
    subst hie
    rw [List.take_length] at hall
    refine G.runE tm 100 ?_
    refine G.ret Try.func14 Try.results14 (.bool (decide ((l.length : Int) ≤ 70))) (by kernel_rfl) fun w' hf _ => ⟨?_, hf.below⟩
    simp only [smallLog, hall, Bool.true_and]
    congr 2
    rw [decide_eq_decide]; omega
end Go.Proofs.Ytkjahaoobdbffaa
