/- The codec as a writer: lists of rules, entries, lists of entries. -/
import Derived.Test.YtkjahaoobdbffaaK7
namespace Go.Proofs.Ytkjahaoobdbffaa
open Go Go.RowKit
attribute [local irreducible] G GD GDop

section w
variable {h : GH} {w : World}

/-- A list of rules, written. -/
def rulsB (l : List Rul) : List Value := numV l.length ++ l.flatMap rulB

theorem f145_ok {b sb so : Nat} {v lv : Value} {xs : List Value} {l : List Rul} {k : Int} {arr : Array Value} {T : TypeId} {fr : Nat × Nat} (hk : 0 < k) (hp : h sb = some (.cells arr T fr)) (ht : arr[so]? = some lv) (hl : SlR h 5 RulR lv l)
    (hm : MemOk h w (codM b v xs)) (hs : Sub h w) (hn : xs.length + (rulsB l).length ≤ 140737488351232) :
    Calls Try.prog 145 #[.pointer (some ⟨b, 0, none⟩), .pointer (some ⟨sb, so, none⟩), .int .i64 k, .func (.func 146) #[.pointer (some ⟨b, 0, none⟩)] #[]] w (Wrote h w b v xs (rulsB l)) := by
  have hlen := SlR.len hl
  rw [rulsB, List.length_append, numV_len] at hn
  refine Calls.enterM (codM b v xs) [.atom (.ptr 0 0), .atom (.raw (.pointer (some ⟨sb, so, none⟩))), .atom (.int .i64 k), .atom (.clo 146 true 0 0)] Try.func145 (c := bodyOf Try.f145) (by kernel_rfl) Try.ntmps145 (by kernel_rfl) hm
    ⟨⟨rfl, Nat.zero_lt_one⟩, ⟨rfl, rfl⟩, rfl, ⟨rfl, Nat.zero_lt_one⟩, trivial⟩ (by simp) hs ?_
  refine G.runE tm 100 ?_
  refine G.sem (m := valS (Instr.loadAt 29 (.pointer (some ⟨sb, so, none⟩)))) (d := some 16) (g := none) (by kernel_rfl) (by kernel_rfl) lv (.atom (.sl lv l.length)) (SlR.sv hl) (says_of fun w hw => run_valS (loadCell Try.underlying29 rfl hp ht hw)) ?_
  refine G.runE tm 100 ?_
  refine G.callW 0 0 [] (f := 144) (svs := [.atom (.ptr 0 0), .atom (.int .i64 l.length), .atom (.int .i64 k)]) (d := some 19) (by kernel_rfl) (by kernel_rfl) (by kernel_rfl) (v := v) (n := xs.length) (xs := xs) (by kernel_rfl) (by kernel_rfl) (by kernel_rfl) rfl
    (zs := numV l.length) (r := .int .i64 l.length) (n' := xs.length + 6) (by rw [numV_len]) (fun β w tmps l hS hl hsub hmem => ?_) fun v1 => ?_
  · obtain ⟨a1, a2, a3, rfl, ⟨rfl, -⟩, rfl, rfl⟩ := args3 hl
    exact f144_ok hk hmem hsub (by omega)
  refine G.runE tm 100 ?_
  refine G.condT (b := true) (by kernel_rfl) rfl ?_
  refine G.runE tm 100 ?_
  refine G.sem (m := valS (Instr.loadAt 29 (.pointer (some ⟨sb, so, none⟩)))) (d := some 26) (g := none) (by kernel_rfl) (by kernel_rfl) lv (.atom (.sl lv l.length)) (SlR.sv hl) (says_of fun w hw => run_valS (loadCell Try.underlying29 rfl hp ht hw)) ?_
  refine G.runE tm 100 ?_
  refine G.loop (α := Nat × Value × List Value × Nat)
    (fun x => ⟨[(0, .one (.atom (.ptr 0 0))), (3, .one (.atom (.clo 146 true 0 0))), (26, .one (.atom (.sl lv l.length))), (27, .one (.atom (.int .i64 l.length))), (28, .one (.atom (.int .i64 x.1)))],
      [(0, ⟨some b, codB x.2.1 x.2.2.2⟩)], 1, [(0, ⟨5, 1, x.2.1, x.2.2.2, x.2.2.1⟩)]⟩)
    (fun x g => g = h ∧ x.1 ≤ l.length ∧ x.2.2.1 = xs ++ (numV l.length ++ (l.take x.1).flatMap rulB) ∧ x.2.2.2 = x.2.2.1.length) (fun x => l.length - x.1) (0, v1, xs ++ numV l.length, xs.length + 6) [0, 3, 26, 27, 28] [0] 1 [0] (by kernel_rfl) (by kernel_rfl) (by kernel_rfl)
      ⟨rfl, Nat.zero_le _, by simp, by simp [numV_len]⟩ ?_
  rintro ⟨i, u, ys, m⟩ g ⟨rfl, hi, hys, hml⟩ IH
  simp only at hi hys hml
  refine G.runE tm 100 ?_
  refine G.cond (decide ((i : Int) < (l.length : Int))) (by kernel_rfl) (fun hc1 => ?_) (fun hc1 => ?_)
  · have hlt : i < l.length := by simpa using hc1
    obtain ⟨x, hx⟩ := get_of_lt hlt
    have hbd := flat_take_le (f := rulB) hx
    have hml2 : m = xs.length + 6 + ((l.take i).flatMap rulB).length := by rw [hml, hys]; simp only [List.length_append, numV_len]; omega
    refine G.runE tm 100 ?_
    refine G.idx (d1 := some 30) (g := none) (T := 29) (E := 114) hl Try.underlying29 z114 hlt (by kernel_rfl) (by kernel_rfl) ?_
    refine G.elRul (d1 := some 31) (g := none) (E := 114) hl z114 u114 hx (by kernel_rfl) (by kernel_rfl) ?_
    refine G.runE tm 100 ?_
    refine G.callW 0 0 [1] (f := 146) (svs := [.atom (.ptr 0 0), .atom (.ptr 1 0)]) (d := some 33) (by kernel_rfl) (by kernel_rfl) (by kernel_rfl) (v := u) (n := m) (xs := ys) (by kernel_rfl) (by kernel_rfl) (by kernel_rfl) hml
      (zs := rulB x) (r := .tuple #[]) (n' := m + (rulB x).length) rfl (fun β w tmps l hS hl hsub hmem => ?_) fun v2 => ?_
    · obtain ⟨a1, a2, rfl, ⟨rfl, -⟩, ⟨rfl, -⟩⟩ := args2 hl
      have hβ : β 0 = b := hS.key (x := codB u m) (by kernel_rfl)
      rw [hβ] at hmem ⊢
      exact f146_ok (hS.roCells (ro := [1]) (k := 1) (bi := none) (T := 114) (cs := rulC x) (vs := (rulA x).toList) (by kernel_rfl) (by simp) rfl) hmem hsub (by rw [← hml]; omega)
    refine G.runE tm 100 ?_
    refine G.reint (k := .i64) 28 (by kernel_rfl) (wrap_succ hlt hlen) ?_
    refine G.back (by kernel_rfl) [0, 3, 26, 27, 28] [0] 1 [0] (by kernel_rfl) (by kernel_rfl) (IH (i + 1, v2, ys ++ rulB x, m + (rulB x).length) _ ⟨rfl, hlt, ?_, ?_⟩ (by simp only; omega))
    · simp only; rw [flat_snoc hx, hys]; simp only [List.append_assoc]
    · simp only [List.length_append]; omega
  · obtain rfl : i = l.length := by simp at hc1; omega
    refine G.runE tm 100 ?_
    rw [List.take_length] at hys
    exact G.retM (codM b v xs) Try.func145 Try.results145 (.tuple #[]) (by kernel_rfl) rfl ⟨[(b, codB u m)], [⟨5, 1, u, m, ys⟩]⟩ (nb := 1) (no := 1) (by kernel_rfl) (by kernel_rfl) rfl fun w' hg =>
      ⟨u, rfl, mk_wrote hg (by rw [hml, hys]; rfl) hys⟩
/-- An entry, written. -/
def entNs (e : Ent) : List Int := [e.view, e.client, e.request, e.dflt, e.closed, e.fuel, e.stack]
def entB (e : Ent) : List Value := (entNs e).flatMap numV ++ (rulsB e.put ++ intsB e.drop)
def entA (e : Ent) (p d : Value) : Array Value := #[.int .i64 e.view, .int .i64 e.client, .int .i64 e.request, .int .i64 e.dflt, .int .i64 e.closed, .int .i64 e.fuel, .int .i64 e.stack, p, d]

theorem Sim.roPtr {hE : GH} {w0 : World} {inc : List Nat} {n : Nat} {s : S} {h : GH} {β : Nat → Nat} {w : World} {tmps : Array Value} (hS : Sim hE w0 inc n s h β w tmps) {ro : List Nat} {k j off : Nat} {bi : Option Nat} {T : TypeId} (hb : bx k s.boxes = some ⟨bi, .lit T [.ptr j off]⟩) (hk : k ∈ ro) :
    roH h β w ro (β k) = some (.cells #[.pointer (some ⟨β j, off, none⟩)] T (0, 0)) := by
  rw [roH_ro hk]
  obtain ⟨arr, h1, h2⟩ := hS.box k _ hb
  have : arr = #[.pointer (some ⟨β j, off, none⟩)] := by
    apply Array.ext'
    match harr : arr.toList, h2 with
    | [x], h2 => rw [h2.1.1]
  rw [h1, this]

theorem f120_ok {b : Nat} {v : Value} {xs : List Value} {eb : Nat} {T : TypeId} {fr : Nat × Nat} {e : Ent} {p d : Value} (hp : h eb = some (.cells (entA e p d) T fr)) (h1 : SlR h 5 RulR p e.put) (h2 : SlR h 1 IntR d e.drop) (hm : MemOk h w (codM b v xs)) (hs : Sub h w) (hn : xs.length + (entB e).length ≤ 140737488351232) :
    Calls Try.prog 120 #[.pointer (some ⟨b, 0, none⟩), .pointer (some ⟨eb, 0, none⟩)] w (Wrote h w b v xs (entB e)) := by
  have hnl : (entB e).length = 42 + ((rulsB e.put).length + (intsB e.drop).length) := by rw [entB, List.length_append, List.length_append, flat_len]; rfl
  rw [hnl] at hn
  refine Calls.enterM (codM b v xs) [.atom (.ptr 0 0), .atom (.raw (.pointer (some ⟨eb, 0, none⟩)))] Try.func120 (c := bodyOf Try.f120) (by kernel_rfl) Try.ntmps120 (by kernel_rfl) hm ⟨⟨rfl, Nat.zero_lt_one⟩, ⟨rfl, rfl⟩, trivial⟩ (by simp) hs ?_
  refine G.runE tm 100 ?_
  refine G.draw [1] tm (by kernel_rfl) (by kernel_rfl) ?_
  refine GD.run (by kernel_rfl) 60 ?_
  refine GD.one 27 (by kernel_rfl) (GDop.callW 0 0 [2] (f := 118) (svs := [.atom (.ptr 0 0), .atom (.bsl 2 0 7 7)]) (d := some 31) (by kernel_rfl) (by kernel_rfl) (by kernel_rfl) (v := v) (n := xs.length) (xs := xs) (by kernel_rfl) (by kernel_rfl) (by kernel_rfl) (by kernel_rfl) (by kernel_rfl) rfl
    (zs := (entNs e).flatMap numV) (r := .tuple #[]) (n' := xs.length + 42) (by rw [flat_len]; rfl) (fun β w tmps l hS hl hsub hmem => ?_) fun v1 => ?_)
  · obtain ⟨a1, a2, rfl, ⟨rfl, -⟩, ⟨rfl, -⟩⟩ := args2 hl
    have h3 := hS.ptrs (ro := [2]) (q := 2) (bi := none) (T := 171) (cs := [.raw (.pointer (some ⟨eb, 0, none⟩)), .raw (.pointer (some ⟨eb, 1, none⟩)), .raw (.pointer (some ⟨eb, 2, none⟩)), .raw (.pointer (some ⟨eb, 3, none⟩)), .raw (.pointer (some ⟨eb, 4, none⟩)), .raw (.pointer (some ⟨eb, 5, none⟩)), .raw (.pointer (some ⟨eb, 6, none⟩))]) (l := entNs e) (by kernel_rfl) (by simp)
      ⟨⟨_, _, _, hp, rfl⟩, ⟨_, _, _, hp, rfl⟩, ⟨_, _, _, hp, rfl⟩, ⟨_, _, _, hp, rfl⟩, ⟨_, _, _, hp, rfl⟩, ⟨_, _, _, hp, rfl⟩, ⟨_, _, _, hp, rfl⟩, trivial⟩ (by simp [entNs])
    exact f118_ok (v := v) (xs := xs) h3 hmem hsub (by simp only [entNs, List.length_cons, List.length_nil]; omega)
  refine GD.run (by kernel_rfl) 50 ?_
  refine GD.fin (by kernel_rfl) ?_
  refine G.runE tm 100 ?_
  refine G.draw [1] tm (by kernel_rfl) (by kernel_rfl) ?_
  refine GD.run (by kernel_rfl) 60 ?_
  refine GD.one 7 (by kernel_rfl) (GDop.callW 0 0 [] (f := 145) (svs := [.atom (.ptr 0 0), .atom (.raw (.pointer (some ⟨eb, 7, none⟩))), .atom (.int .i64 30), .atom (.clo 146 true 0 0)]) (d := some 39) (by kernel_rfl) (by kernel_rfl) (by kernel_rfl) (v := v1) (n := xs.length + 42) (xs := xs ++ (entNs e).flatMap numV) (by kernel_rfl) (by kernel_rfl) (by kernel_rfl) (by kernel_rfl) (by kernel_rfl) (by rw [List.length_append, flat_len]; rfl)
    (zs := rulsB e.put) (r := .tuple #[]) (n' := xs.length + 42 + (rulsB e.put).length) rfl (fun β w tmps l hS hl hsub hmem => ?_) fun v2 => ?_)
  · obtain ⟨a1, a2, a3, a4, rfl, ⟨rfl, -⟩, ⟨rfl, -⟩, rfl, ⟨rfl, -⟩⟩ := args4 hl
    exact f145_ok (by decide) (hS.roLe [] _ _ hp) rfl (h1.mono (hS.roLe []) fun _ _ h => h) hmem hsub (by rw [List.length_append, flat_len]; simp only [entNs, List.length_cons, List.length_nil]; omega)
  refine GD.run (by kernel_rfl) 50 ?_
  refine GD.fin (by kernel_rfl) ?_
  refine G.runE tm 100 ?_
  refine G.draw [1] tm (by kernel_rfl) (by kernel_rfl) ?_
  refine GD.run (by kernel_rfl) 60 ?_
  refine GD.one 6 (by kernel_rfl) (GDop.callW 0 0 [1] (f := 147) (svs := [.atom (.ptr 0 0), .atom (.raw (.pointer (some ⟨eb, 8, none⟩))), .atom (.int .i64 6), .atom (.clo 148 false 1 0)]) (d := some 46) (by kernel_rfl) (by kernel_rfl) (by kernel_rfl) (v := v2) (n := xs.length + 42 + (rulsB e.put).length) (xs := (xs ++ (entNs e).flatMap numV) ++ rulsB e.put) (by kernel_rfl) (by kernel_rfl) (by kernel_rfl) (by kernel_rfl) (by kernel_rfl) (by rw [List.length_append, List.length_append, flat_len]; rfl)
    (zs := intsB e.drop) (r := .tuple #[]) (n' := xs.length + 42 + (rulsB e.put).length + (intsB e.drop).length) rfl (fun β w tmps l hS hl hsub hmem => ?_) fun v3 => ?_)
  · obtain ⟨a1, a2, a3, a4, rfl, ⟨rfl, -⟩, ⟨rfl, -⟩, rfl, ⟨rfl, -⟩⟩ := args4 hl
    exact f147_ok (by decide) (hS.roLe [1] _ _ hp) rfl (h2.mono (hS.roLe [1]) fun _ _ h => h) (hS.roPtr (bi := none) (T := 125) (by kernel_rfl) (by simp)) hmem hsub (by rw [List.length_append, List.length_append, flat_len]; simp only [entNs, List.length_cons, List.length_nil]; omega)
  refine GD.run (by kernel_rfl) 50 ?_
  refine GD.fin (by kernel_rfl) ?_
  refine G.runE tm 100 ?_
  exact G.retM (codM b v xs) Try.func120 Try.results120 (.tuple #[]) (by kernel_rfl) rfl ⟨[(b, codB v3 (xs.length + 42 + (rulsB e.put).length + (intsB e.drop).length))], [⟨5, 1, v3, xs.length + 42 + (rulsB e.put).length + (intsB e.drop).length, ((xs ++ (entNs e).flatMap numV) ++ rulsB e.put) ++ intsB e.drop⟩]⟩ (nb := 1) (no := 1) (by kernel_rfl) (by kernel_rfl) rfl fun w' hg =>
    ⟨v3, rfl, mk_wrote hg (by rw [List.length_append, hnl]; omega) (by simp only [entB, List.append_assoc])⟩

/-- A list of entries, written. -/
def entsB (l : List Ent) : List Value := numV l.length ++ l.flatMap entB

theorem f119_ok {b sb so : Nat} {v lv : Value} {xs : List Value} {l : List Ent} {k : Int} {arr : Array Value} {T : TypeId} {fr : Nat × Nat} (hk : 0 < k) (hp : h sb = some (.cells arr T fr)) (ht : arr[so]? = some lv) (hl : EntsR h lv l)
    (hm : MemOk h w (codM b v xs)) (hs : Sub h w) (hn : xs.length + (entsB l).length ≤ 140737488351232) :
    Calls Try.prog 119 #[.pointer (some ⟨b, 0, none⟩), .pointer (some ⟨sb, so, none⟩), .int .i64 k, .func (.func 120) #[.pointer (some ⟨b, 0, none⟩)] #[]] w (Wrote h w b v xs (entsB l)) := by
  have hlen := SlR.len hl
  rw [entsB, List.length_append, numV_len] at hn
  refine Calls.enterM (codM b v xs) [.atom (.ptr 0 0), .atom (.raw (.pointer (some ⟨sb, so, none⟩))), .atom (.int .i64 k), .atom (.clo 120 true 0 0)] Try.func119 (c := bodyOf Try.f119) (by kernel_rfl) Try.ntmps119 (by kernel_rfl) hm
    ⟨⟨rfl, Nat.zero_lt_one⟩, ⟨rfl, rfl⟩, rfl, ⟨rfl, Nat.zero_lt_one⟩, trivial⟩ (by simp) hs ?_
  refine G.runE tm 100 ?_
  refine G.sem (m := valS (Instr.loadAt 22 (.pointer (some ⟨sb, so, none⟩)))) (d := some 16) (g := none) (by kernel_rfl) (by kernel_rfl) lv (.atom (.sl lv l.length)) (SlR.sv hl) (says_of fun w hw => run_valS (loadCell Try.underlying22 rfl hp ht hw)) ?_
  refine G.runE tm 100 ?_
  refine G.callW 0 0 [] (f := 144) (svs := [.atom (.ptr 0 0), .atom (.int .i64 l.length), .atom (.int .i64 k)]) (d := some 19) (by kernel_rfl) (by kernel_rfl) (by kernel_rfl) (v := v) (n := xs.length) (xs := xs) (by kernel_rfl) (by kernel_rfl) (by kernel_rfl) rfl
    (zs := numV l.length) (r := .int .i64 l.length) (n' := xs.length + 6) (by rw [numV_len]) (fun β w tmps l hS hl hsub hmem => ?_) fun v1 => ?_
  · obtain ⟨a1, a2, a3, rfl, ⟨rfl, -⟩, rfl, rfl⟩ := args3 hl
    exact f144_ok hk hmem hsub (by omega)
  refine G.runE tm 100 ?_
  refine G.condT (b := true) (by kernel_rfl) rfl ?_
  refine G.runE tm 100 ?_
  refine G.sem (m := valS (Instr.loadAt 22 (.pointer (some ⟨sb, so, none⟩)))) (d := some 26) (g := none) (by kernel_rfl) (by kernel_rfl) lv (.atom (.sl lv l.length)) (SlR.sv hl) (says_of fun w hw => run_valS (loadCell Try.underlying22 rfl hp ht hw)) ?_
  refine G.runE tm 100 ?_
  refine G.loop (α := Nat × Value × List Value × Nat)
    (fun x => ⟨[(0, .one (.atom (.ptr 0 0))), (3, .one (.atom (.clo 120 true 0 0))), (26, .one (.atom (.sl lv l.length))), (27, .one (.atom (.int .i64 l.length))), (28, .one (.atom (.int .i64 x.1)))],
      [(0, ⟨some b, codB x.2.1 x.2.2.2⟩)], 1, [(0, ⟨5, 1, x.2.1, x.2.2.2, x.2.2.1⟩)]⟩)
    (fun x g => g = h ∧ x.1 ≤ l.length ∧ x.2.2.1 = xs ++ (numV l.length ++ (l.take x.1).flatMap entB) ∧ x.2.2.2 = x.2.2.1.length) (fun x => l.length - x.1) (0, v1, xs ++ numV l.length, xs.length + 6) [0, 3, 26, 27, 28] [0] 1 [0] (by kernel_rfl) (by kernel_rfl) (by kernel_rfl)
      ⟨rfl, Nat.zero_le _, by simp, by simp [numV_len]⟩ ?_
  rintro ⟨i, u, ys, m⟩ g ⟨rfl, hi, hys, hml⟩ IH
  simp only at hi hys hml
  refine G.runE tm 100 ?_
  refine G.cond (decide ((i : Int) < (l.length : Int))) (by kernel_rfl) (fun hc1 => ?_) (fun hc1 => ?_)
  · have hlt : i < l.length := by simpa using hc1
    obtain ⟨x, hx⟩ := get_of_lt hlt
    have hbd := flat_take_le (f := entB) hx
    have hml2 : m = xs.length + 6 + ((l.take i).flatMap entB).length := by rw [hml, hys]; simp only [List.length_append, numV_len]; omega
    refine G.runE tm 100 ?_
    refine G.idx (d1 := some 30) (g := none) (T := 22) (E := 34) hl Try.underlying22 z34 hlt (by kernel_rfl) (by kernel_rfl) ?_
    refine G.elEnt (d1 := some 31) (g := none) (E := 34) hl z34 u34 hx (by kernel_rfl) (by kernel_rfl) fun p d hpp hdd => ?_
    refine G.runE tm 100 ?_
    refine G.callW 0 0 [1] (f := 120) (svs := [.atom (.ptr 0 0), .atom (.ptr 1 0)]) (d := some 33) (by kernel_rfl) (by kernel_rfl) (by kernel_rfl) (v := u) (n := m) (xs := ys) (by kernel_rfl) (by kernel_rfl) (by kernel_rfl) hml
      (zs := entB x) (r := .tuple #[]) (n' := m + (entB x).length) rfl (fun β w tmps l hS hl hsub hmem => ?_) fun v2 => ?_
    · obtain ⟨a1, a2, rfl, ⟨rfl, -⟩, ⟨rfl, -⟩⟩ := args2 hl
      have hβ : β 0 = b := hS.key (x := codB u m) (by kernel_rfl)
      rw [hβ] at hmem ⊢
      exact f120_ok (hS.roCells (ro := [1]) (k := 1) (bi := none) (T := 34) (cs := entC x p d) (vs := (entA x p d).toList) (by kernel_rfl) (by simp) rfl) (hpp.mono (hS.roLe [1]) fun _ _ h => h) (hdd.mono (hS.roLe [1]) fun _ _ h => h) hmem hsub (by rw [← hml]; omega)
    refine G.runE tm 100 ?_
    refine G.reint (k := .i64) 28 (by kernel_rfl) (wrap_succ hlt hlen) ?_
    refine G.back (by kernel_rfl) [0, 3, 26, 27, 28] [0] 1 [0] (by kernel_rfl) (by kernel_rfl) (IH (i + 1, v2, ys ++ entB x, m + (entB x).length) _ ⟨rfl, hlt, ?_, ?_⟩ (by simp only; omega))
    · simp only; rw [flat_snoc hx, hys]; simp only [List.append_assoc]
    · simp only [List.length_append]; omega
  · obtain rfl : i = l.length := by simp at hc1; omega
    refine G.runE tm 100 ?_
    rw [List.take_length] at hys
    exact G.retM (codM b v xs) Try.func119 Try.results119 (.tuple #[]) (by kernel_rfl) rfl ⟨[(b, codB u m)], [⟨5, 1, u, m, ys⟩]⟩ (nb := 1) (no := 1) (by kernel_rfl) (by kernel_rfl) rfl fun w' hg =>
      ⟨u, rfl, mk_wrote hg (by rw [hml, hys]; rfl) hys⟩

end w
end Go.Proofs.Ytkjahaoobdbffaa
