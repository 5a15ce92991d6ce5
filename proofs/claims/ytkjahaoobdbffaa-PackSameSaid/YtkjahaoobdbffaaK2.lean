/- What the functions that look through slices answer; entries that are right. -/
import Derived.Test.YtkjahaoobdbffaaK1
namespace Go.Proofs.Ytkjahaoobdbffaa
open Go Go.RowKit

theorem wrap_succ {n m : Nat} (h : n < m) (hm : m ≤ 140737488351232) : IntKind.i64.wrap ((n : Int) + 1) = ((n + 1 : Nat) : Int) := by
  rw [IntWalk.i64_in _ (by omega)]; rfl

theorem get_of_lt {α : Type} {l : List α} {i : Nat} (h : i < l.length) : ∃ x, l[i]? = some x := ⟨l[i], by simp [h]⟩

theorem all_take_succ {α : Type} {p : α → Bool} {l : List α} {i : Nat} {x : α} (hx : l[i]? = some x) (h : (l.take i).all p = true) (hp : p x = true) : (l.take (i + 1)).all p = true := by
  rw [List.take_add_one, hx]; simp [h, hp]

theorem any_take_succ {α : Type} {p : α → Bool} {l : List α} {i : Nat} {x : α} (hx : l[i]? = some x) (h : (l.take i).any p = false) (hp : p x = false) : (l.take (i + 1)).any p = false := by
  rw [List.take_add_one, hx]; simp [h, hp]

theorem all_false {α : Type} {p : α → Bool} {l : List α} {i : Nat} {x : α} (hx : l[i]? = some x) (hp : p x = false) : l.all p = false := by
  rw [List.all_eq_false]
  exact ⟨x, List.mem_of_getElem? hx, by simp [hp]⟩

/-- Where the first is, or -1. -/
def idxF {α : Type} (p : α → Bool) (l : List α) : Int := match l.findIdx? p with
  | some i => i
  | none => -1

theorem idxF_found {α : Type} {p : α → Bool} {l : List α} {i : Nat} {x : α} (hx : l[i]? = some x) (h : (l.take i).any p = false) (hp : p x = true) : idxF p l = i := by
  have : l.findIdx? p = some i := by
    rw [List.findIdx?_eq_some_iff_getElem]
    obtain ⟨hi, rfl⟩ := List.getElem?_eq_some_iff.1 hx
    refine ⟨hi, hp, fun j hj => ?_⟩
    have := List.any_eq_false.1 h l[j] (List.mem_take_iff_getElem.2 ⟨j, by omega, rfl⟩)
    simpa using this
  simp [idxF, this]

theorem idxF_none {α : Type} {p : α → Bool} {l : List α} (h : l.any p = false) : idxF p l = -1 := by
  have : l.findIdx? p = none := by
    rw [List.findIdx?_eq_none_iff]
    intro x hx
    simpa using List.any_eq_false.1 h x hx
  simp [idxF, this]

theorem idxF_any {α : Type} (p : α → Bool) (l : List α) : decide (idxF p l ≥ 0) = l.any p := by
  cases h : l.any p
  · rw [idxF_none h]; rfl
  · obtain ⟨x, hx, hp⟩ := List.any_eq_true.1 h
    have : (l.findIdx? p).isSome = true := by rw [List.findIdx?_isSome]; exact h
    obtain ⟨i, hi⟩ := Option.isSome_iff_exists.1 this
    simp [idxF, hi]

/-- The slot state of a loop over a slice that calls a function at each element. -/
def fnV (f : FuncId) : Value := .func (.func f) #[] #[]

section idx
variable {h : GH} {v : Value} {w : World}

theorem f116_ok {l : List Rul} (hl : SlR h 5 RulR v l) (hs : Sub h w) (f : FuncId) (he : enters Try.prog f = true) (p : Rul → Bool)
    (hf : ∀ r w, Calls Try.prog f #[rulV r] w fun e w' => e = .returned (.bool (p r)) ∧ Below w.heap.size w w') :
    Calls Try.prog 116 #[v, fnV f] w fun e w' => e = .returned (.int .i64 (idxF p l)) ∧ Below w.heap.size w w' := by
  have hlen := hl.len
  refine Calls.enter [.atom (.sl v l.length), .atom (.raw (fnV f))] Try.func116 (c := bodyOf Try.f116) (by kernel_rfl) Try.ntmps116 ⟨hl.sv _ _, ⟨rfl, rfl⟩, trivial⟩ (by simp) hs ?_
  refine G.runE tm 100 ?_
  refine G.loop (α := Nat) (fun i => ⟨[(0, .one (.atom (.sl v l.length))), (1, .one (.atom (.raw (fnV f)))), (7, .one (.atom (.int .i64 l.length))), (8, .one (.atom (.int .i64 i)))], [], 0, []⟩)
    (fun i g => g = h ∧ i ≤ l.length ∧ (l.take i).any p = false) (fun i => l.length - i) 0 [0, 1, 7, 8] [] 0 [] (by kernel_rfl) (by kernel_rfl) (by kernel_rfl) ⟨rfl, Nat.zero_le _, by simp⟩ ?_
  rintro i g ⟨rfl, hi, hall⟩ IH
  refine G.runE tm 100 ?_
  refine G.cond (decide ((i : Int) < (l.length : Int))) (by kernel_rfl) (fun hb => ?_) (fun hb => ?_)
  · have hlt : i < l.length := by simpa using hb
    obtain ⟨r, hr⟩ := get_of_lt hlt
    refine G.runE tm 100 ?_
    refine G.idx (d1 := some 14) (g := none) (T := 29) (E := 114) hl Try.underlying29 z114 hlt (by kernel_rfl) (by kernel_rfl) ?_
    refine G.elRul (d1 := some 15) (g := none) (E := 114) hl z114 u114 hr (by kernel_rfl) (by kernel_rfl) ?_
    refine G.callV (f := f) (svs := [.agg (rulC r)]) (d := some 16) (by kernel_rfl) [rulV r] (.bool (p r)) (by kernel_rfl) he (by kernel_rfl) (fun w _ => hf r w) ?_
    refine G.runE tm 100 ?_
    refine G.cond (p r) (by kernel_rfl) (fun hb => ?_) (fun hb => ?_)
    · refine G.runE tm 100 ?_
      exact G.ret Try.func116 Try.results116 (.int .i64 i) (by kernel_rfl) fun w' hf _ => ⟨by rw [idxF_found hr hall hb], hf.below⟩
    · refine G.runE tm 100 ?_
      refine G.reint (k := .i64) 8 (by kernel_rfl) (wrap_succ hlt hlen) ?_
      exact G.back (by kernel_rfl) [0, 1, 7, 8] [] 0 [] (by kernel_rfl) (by kernel_rfl) (IH (i + 1) _ ⟨rfl, hlt, any_take_succ hr hall hb⟩ (by omega))
  · obtain rfl : i = l.length := by simp at hb; omega
    rw [List.take_length] at hall
    refine G.runE tm 100 ?_
    exact G.ret Try.func116 Try.results116 (.int .i64 (-1)) (by kernel_rfl) fun w' hf _ => ⟨by rw [idxF_none hall], hf.below⟩

theorem f117_ok {l : List Int} (hl : SlR h 1 IntR v l) (hs : Sub h w) (f : FuncId) (he : enters Try.prog f = true) (p : Int → Bool)
    (hf : ∀ r w, Calls Try.prog f #[.int .i64 r] w fun e w' => e = .returned (.bool (p r)) ∧ Below w.heap.size w w') :
    Calls Try.prog 117 #[v, fnV f] w fun e w' => e = .returned (.int .i64 (idxF p l)) ∧ Below w.heap.size w w' := by
  have hlen := hl.len
  refine Calls.enter [.atom (.sl v l.length), .atom (.raw (fnV f))] Try.func117 (c := bodyOf Try.f117) (by kernel_rfl) Try.ntmps117 ⟨hl.sv _ _, ⟨rfl, rfl⟩, trivial⟩ (by simp) hs ?_
  refine G.runE tm 100 ?_
  refine G.loop (α := Nat) (fun i => ⟨[(0, .one (.atom (.sl v l.length))), (1, .one (.atom (.raw (fnV f)))), (7, .one (.atom (.int .i64 l.length))), (8, .one (.atom (.int .i64 i)))], [], 0, []⟩)
    (fun i g => g = h ∧ i ≤ l.length ∧ (l.take i).any p = false) (fun i => l.length - i) 0 [0, 1, 7, 8] [] 0 [] (by kernel_rfl) (by kernel_rfl) (by kernel_rfl) ⟨rfl, Nat.zero_le _, by simp⟩ ?_
  rintro i g ⟨rfl, hi, hall⟩ IH
  refine G.runE tm 100 ?_
  refine G.cond (decide ((i : Int) < (l.length : Int))) (by kernel_rfl) (fun hb => ?_) (fun hb => ?_)
  · have hlt : i < l.length := by simpa using hb
    obtain ⟨r, hr⟩ := get_of_lt hlt
    refine G.runE tm 100 ?_
    refine G.idx (d1 := some 14) (g := none) (T := 30) (E := 3) hl Try.underlying30 z3 hlt (by kernel_rfl) (by kernel_rfl) ?_
    refine G.elInt (d1 := some 15) (g := none) (E := 3) hl u3 hr (by kernel_rfl) (by kernel_rfl) ?_
    refine G.callV (f := f) (svs := [.atom (.int .i64 r)]) (d := some 16) (by kernel_rfl) [.int .i64 r] (.bool (p r)) (by kernel_rfl) he (by kernel_rfl) (fun w _ => hf r w) ?_
    refine G.runE tm 100 ?_
    refine G.cond (p r) (by kernel_rfl) (fun hb => ?_) (fun hb => ?_)
    · refine G.runE tm 100 ?_
      exact G.ret Try.func117 Try.results117 (.int .i64 i) (by kernel_rfl) fun w' hf _ => ⟨by rw [idxF_found hr hall hb], hf.below⟩
    · refine G.runE tm 100 ?_
      refine G.reint (k := .i64) 8 (by kernel_rfl) (wrap_succ hlt hlen) ?_
      exact G.back (by kernel_rfl) [0, 1, 7, 8] [] 0 [] (by kernel_rfl) (by kernel_rfl) (IH (i + 1) _ ⟨rfl, hlt, any_take_succ hr hall hb⟩ (by omega))
  · obtain rfl : i = l.length := by simp at hb; omega
    rw [List.take_length] at hall
    refine G.runE tm 100 ?_
    exact G.ret Try.func117 Try.results117 (.int .i64 (-1)) (by kernel_rfl) fun w' hf _ => ⟨by rw [idxF_none hall], hf.below⟩

theorem f64_ok {l : List Rul} (hl : SlR h 5 RulR v l) (hs : Sub h w) (f : FuncId) (he : enters Try.prog f = true) (p : Rul → Bool)
    (hf : ∀ r w, Calls Try.prog f #[rulV r] w fun e w' => e = .returned (.bool (p r)) ∧ Below w.heap.size w w') :
    Calls Try.prog 64 #[v, fnV f] w fun e w' => e = .returned (.bool (l.any p)) ∧ Below w.heap.size w w' := by
  refine Calls.enter [.atom (.sl v l.length), .atom (.raw (fnV f))] Try.func64 (c := bodyOf Try.f64) (by kernel_rfl) Try.ntmps64 ⟨hl.sv _ _, ⟨rfl, rfl⟩, trivial⟩ (by simp) hs ?_
  refine G.runE tm 100 ?_
  refine G.callV (f := 116) (svs := [.atom (.sl v l.length), .atom (.raw (fnV f))]) (d := some 7) (by kernel_rfl) [v, fnV f] (.int .i64 (idxF p l)) (by kernel_rfl) (by kernel_rfl) (by kernel_rfl) (fun w hs => f116_ok hl hs f he p hf) ?_
  refine G.runE tm 100 ?_
  exact G.ret Try.func64 Try.results64 (.bool (decide (idxF p l ≥ 0))) (by kernel_rfl) fun w' hf _ => ⟨by rw [idxF_any], hf.below⟩

theorem f67_ok {l : List Int} (hl : SlR h 1 IntR v l) (hs : Sub h w) (f : FuncId) (he : enters Try.prog f = true) (p : Int → Bool)
    (hf : ∀ r w, Calls Try.prog f #[.int .i64 r] w fun e w' => e = .returned (.bool (p r)) ∧ Below w.heap.size w w') :
    Calls Try.prog 67 #[v, fnV f] w fun e w' => e = .returned (.bool (l.any p)) ∧ Below w.heap.size w w' := by
  refine Calls.enter [.atom (.sl v l.length), .atom (.raw (fnV f))] Try.func67 (c := bodyOf Try.f67) (by kernel_rfl) Try.ntmps67 ⟨hl.sv _ _, ⟨rfl, rfl⟩, trivial⟩ (by simp) hs ?_
  refine G.runE tm 100 ?_
  refine G.callV (f := 117) (svs := [.atom (.sl v l.length), .atom (.raw (fnV f))]) (d := some 7) (by kernel_rfl) [v, fnV f] (.int .i64 (idxF p l)) (by kernel_rfl) (by kernel_rfl) (by kernel_rfl) (fun w hs => f117_ok hl hs f he p hf) ?_
  refine G.runE tm 100 ?_
  exact G.ret Try.func67 Try.results67 (.bool (decide (idxF p l ≥ 0))) (by kernel_rfl) fun w' hf _ => ⟨by rw [idxF_any], hf.below⟩

/-- Is an entry right? -/
def entRight (e : Ent) : Bool :=
  inR 0 1099511627776 e.view && inR 1 1099511627776 e.client && inR 1 1099511627776 e.request && inR (-1) 1099511627776 e.dflt && inR (-1) 1099511627776 e.closed && inR (-1) 1099511627776 e.fuel && inR (-1) 1099511627776 e.stack &&
    decide ((e.put.length : Int) ≤ 16) && decide ((e.drop.length : Int) ≤ 16) && !(e.put.any fun r => !rulRight r) && !(e.drop.any fun n => !inR 1 1099511627776 n)

theorem f18_ok {p d : Value} {e : Ent} (hp : SlR h 5 RulR p e.put) (hd : SlR h 1 IntR d e.drop) (hs : Sub h w) :
    Calls Try.prog 18 #[entV e p d] w fun e' w' => e' = .returned (.bool (entRight e)) ∧ Below w.heap.size w w' := by
  refine Calls.enter [.agg (entC e p d)] Try.func18 (c := bodyOf Try.f18) (by kernel_rfl) Try.ntmps18 ⟨entC_ok hp hd _ _, trivial⟩ (by simp) hs ?_
  refine G.runT tab0_ok tm 100 ?_
  have hc : ∀ w, Sub h w → Calls Try.prog 64 #[p, fnV 65] w fun e' w' => e' = .returned (.bool (e.put.any fun r => !rulRight r)) ∧ Below w.heap.size w w' := fun w hs => f64_ok hp hs 65 (by kernel_rfl) (fun r => !rulRight r) f65_ok
  refine G.callGV (f := 64) (svs := [.atom (.sl p e.put.length), .atom (.raw (fnV 65))]) (d := 54) (tg := 51) (want := true) (by kernel_rfl) [p, fnV 65] (.bool (e.put.any fun r => !rulRight r)) (by kernel_rfl) (by kernel_rfl) (by kernel_rfl)
    (says_of hc) ?_
  refine G.runT tab0_ok tm 100 ?_
  refine G.callGV (f := 67) (svs := [.atom (.sl d e.drop.length), .atom (.raw (fnV 68))]) (d := 60) (tg := 57) (want := true) (by kernel_rfl) [d, fnV 68] (.bool (e.drop.any fun n => !inR 1 1099511627776 n)) (by kernel_rfl) (by kernel_rfl) (by kernel_rfl)
    (says_of fun w hs => f67_ok hd hs 68 (by kernel_rfl) (fun n => !inR 1 1099511627776 n) f68_ok) ?_
  refine G.runT tab0_ok tm 100 ?_
  exact G.ret Try.func18 Try.results18 (.bool (entRight e)) (by kernel_rfl) fun w' hf _ => ⟨rfl, hf.below⟩
end idx
end Go.Proofs.Ytkjahaoobdbffaa
