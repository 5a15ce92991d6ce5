/- Merged: K8 K10 K11 K15 K16 K17 K18 -/
import Derived.Laws.BytesString
import Derived.Test.YtkjahaoobdbffaaX5

/- The codec as a writer: lists of rules, entries, lists of entries. -/
namespace Go.Proofs.Ytkjahaoobdbffaa
open Go Go.RowKit
attribute [local irreducible] G GD GDop

section w
variable {h : GH} {w : World}

/-- A list of rules, written. -/
def rulsB (l : List Rul) : List Value := numV l.length ++ l.flatMap rulB

theorem f145_ok {b sb so : Nat} {v lv : Value} {xs : List Value} {l : List Rul} {k : Int} {arr : Array Value} {T : TypeId} {fr : Nat × Nat} (hk : 0 < k) (hp : h sb = some (.cells arr T fr)) (ht : arr[so]? = some lv) (hl : SlR h 5 RulR lv l)
    (hm : MemOk h w (codM b v xs)) (hs : Sub h w) (hn : xs.length + (rulsB l).length ≤ 140737488351232) :
    Calls Try.prog 145 #[.pointer (some ⟨b, 0, none⟩), .pointer (some ⟨sb, so, none⟩), .int .i64 k, .func (.func 146) #[.pointer (some ⟨b, 0, none⟩)] #[]] w (Wrote h w b v xs (rulsB l)) := by
  have hlen := SlR.len hl
  rw [rulsB, List.length_append, numV_len] at hn
  refine Calls.enterM (codM b v xs) [.atom (.ptr 0 0), .atom (.raw (.pointer (some ⟨sb, so, none⟩))), .atom (.int .i64 k), .atom (.clo 146 true 0 0)] Try.func145 (c := bodyOf Try.f145) (by kernel_rfl) Try.ntmps145 (by kernel_rfl) hm
    ⟨⟨rfl, Nat.zero_lt_one⟩, ⟨rfl, rfl⟩, rfl, ⟨rfl, Nat.zero_lt_one⟩, trivial⟩ (by simp) hs ?_
  refine G.runE tm 100 ?_
  refine G.sem (m := valS (Instr.loadAt 29 (.pointer (some ⟨sb, so, none⟩)))) (d := some 16) (g := none) (by kernel_rfl) (by kernel_rfl) lv (.atom (.sl lv l.length)) (SlR.sv hl) (says_of fun w hw => run_valS (loadCell Try.underlying29 rfl hp ht hw)) ?_
  refine G.runE tm 100 ?_
  refine G.callW 0 0 [] (f := 144) (svs := [.atom (.ptr 0 0), .atom (.int .i64 l.length), .atom (.int .i64 k)]) (d := some 19) (by kernel_rfl) (by kernel_rfl) (by kernel_rfl) (v := v) (n := xs.length) (xs := xs) (by kernel_rfl) (by kernel_rfl) (by kernel_rfl) rfl
    (zs := numV l.length) (r := .int .i64 l.length) (n' := xs.length + 6) (by rw [numV_len]) (fun β w tmps l hS hl hsub hmem => ?_) fun v1 => ?_
  · obtain ⟨a1, a2, a3, rfl, ⟨rfl, -⟩, rfl, rfl⟩ := args3 hl
    exact f144_ok hk hmem hsub (by omega)
  refine G.runE tm 100 ?_
  refine G.condT (b := true) (by kernel_rfl) rfl ?_
  refine G.runE tm 100 ?_
  refine G.sem (m := valS (Instr.loadAt 29 (.pointer (some ⟨sb, so, none⟩)))) (d := some 26) (g := none) (by kernel_rfl) (by kernel_rfl) lv (.atom (.sl lv l.length)) (SlR.sv hl) (says_of fun w hw => run_valS (loadCell Try.underlying29 rfl hp ht hw)) ?_
  refine G.runE tm 100 ?_
  refine G.loop (α := Nat × Value × List Value × Nat)
    (fun x => ⟨[(0, .one (.atom (.ptr 0 0))), (3, .one (.atom (.clo 146 true 0 0))), (26, .one (.atom (.sl lv l.length))), (27, .one (.atom (.int .i64 l.length))), (28, .one (.atom (.int .i64 x.1)))],
      [(0, ⟨some b, codB x.2.1 x.2.2.2⟩)], 1, [(0, ⟨5, 1, x.2.1, x.2.2.2, x.2.2.1⟩)]⟩)
    (fun x g => g = h ∧ x.1 ≤ l.length ∧ x.2.2.1 = xs ++ (numV l.length ++ (l.take x.1).flatMap rulB) ∧ x.2.2.2 = x.2.2.1.length) (fun x => l.length - x.1) (0, v1, xs ++ numV l.length, xs.length + 6) [0, 3, 26, 27, 28] [0] 1 [0] (by kernel_rfl) (by kernel_rfl) (by kernel_rfl)
      ⟨rfl, Nat.zero_le _, by simp, by simp [numV_len]⟩ ?_
  rintro ⟨i, u, ys, m⟩ g ⟨rfl, hi, hys, hml⟩ IH
  simp only at hi hys hml
  refine G.runE tm 100 ?_
  refine G.cond (decide ((i : Int) < (l.length : Int))) (by kernel_rfl) (fun hc1 => ?_) (fun hc1 => ?_)
  · have hlt : i < l.length := by simpa using hc1
    obtain ⟨x, hx⟩ := get_of_lt hlt
    have hbd := flat_take_le (f := rulB) hx
    have hml2 : m = xs.length + 6 + ((l.take i).flatMap rulB).length := by rw [hml, hys]; simp only [List.length_append, numV_len]; omega
    refine G.runE tm 100 ?_
    refine G.idx (d1 := some 30) (g := none) (T := 29) (E := 114) hl Try.underlying29 z114 hlt (by kernel_rfl) (by kernel_rfl) ?_
    refine G.elRul (d1 := some 31) (g := none) (E := 114) hl z114 u114 hx (by kernel_rfl) (by kernel_rfl) ?_
    refine G.runE tm 100 ?_
    refine G.callW 0 0 [1] (f := 146) (svs := [.atom (.ptr 0 0), .atom (.ptr 1 0)]) (d := some 33) (by kernel_rfl) (by kernel_rfl) (by kernel_rfl) (v := u) (n := m) (xs := ys) (by kernel_rfl) (by kernel_rfl) (by kernel_rfl) hml
      (zs := rulB x) (r := .tuple #[]) (n' := m + (rulB x).length) rfl (fun β w tmps l hS hl hsub hmem => ?_) fun v2 => ?_
    · obtain ⟨a1, a2, rfl, ⟨rfl, -⟩, ⟨rfl, -⟩⟩ := args2 hl
      have hβ : β 0 = b := hS.key (x := codB u m) (by kernel_rfl)
      rw [hβ] at hmem ⊢
      exact f146_ok (hS.roCells (ro := [1]) (k := 1) (bi := none) (T := 114) (cs := rulC x) (vs := (rulA x).toList) (by kernel_rfl) (by simp) rfl) hmem hsub (by rw [← hml]; omega)
    refine G.runE tm 100 ?_
    refine G.reint (k := .i64) 28 (by kernel_rfl) (wrap_succ hlt hlen) ?_
    refine G.back (by kernel_rfl) [0, 3, 26, 27, 28] [0] 1 [0] (by kernel_rfl) (by kernel_rfl) (IH (i + 1, v2, ys ++ rulB x, m + (rulB x).length) _ ⟨rfl, hlt, ?_, ?_⟩ (by simp only; omega))
    · simp only; rw [flat_snoc hx, hys]; simp only [List.append_assoc]
    · simp only [List.length_append]; omega
  · obtain rfl : i = l.length := by simp at hc1; omega
    refine G.runE tm 100 ?_
    rw [List.take_length] at hys
    exact G.retM (codM b v xs) Try.func145 Try.results145 (.tuple #[]) (by kernel_rfl) rfl ⟨[(b, codB u m)], [⟨5, 1, u, m, ys⟩]⟩ (nb := 1) (no := 1) (by kernel_rfl) (by kernel_rfl) rfl fun w' hg =>
      ⟨u, rfl, mk_wrote hg (by rw [hml, hys]; rfl) hys⟩
/-- An entry, written. -/
def entNs (e : Ent) : List Int := [e.view, e.client, e.request, e.dflt, e.closed, e.fuel, e.stack]
def entB (e : Ent) : List Value := (entNs e).flatMap numV ++ (rulsB e.put ++ intsB e.drop)
def entA (e : Ent) (p d : Value) : Array Value := #[.int .i64 e.view, .int .i64 e.client, .int .i64 e.request, .int .i64 e.dflt, .int .i64 e.closed, .int .i64 e.fuel, .int .i64 e.stack, p, d]

theorem Sim.roPtr {hE : GH} {w0 : World} {inc : List Nat} {n : Nat} {s : S} {h : GH} {β : Nat → Nat} {w : World} {tmps : Array Value} (hS : Sim hE w0 inc n s h β w tmps) {ro : List Nat} {k j off : Nat} {bi : Option Nat} {T : TypeId} (hb : bx k s.boxes = some ⟨bi, .lit T [.ptr j off]⟩) (hk : k ∈ ro) :
    roH h β w ro (β k) = some (.cells #[.pointer (some ⟨β j, off, none⟩)] T (0, 0)) := by
  rw [roH_ro hk]
  obtain ⟨arr, h1, h2⟩ := hS.box k _ hb
  have : arr = #[.pointer (some ⟨β j, off, none⟩)] := by
    apply Array.ext'
    match harr : arr.toList, h2 with
    | [x], h2 => rw [h2.1.1]
  rw [h1, this]

theorem f120_ok {b : Nat} {v : Value} {xs : List Value} {eb : Nat} {T : TypeId} {fr : Nat × Nat} {e : Ent} {p d : Value} (hp : h eb = some (.cells (entA e p d) T fr)) (h1 : SlR h 5 RulR p e.put) (h2 : SlR h 1 IntR d e.drop) (hm : MemOk h w (codM b v xs)) (hs : Sub h w) (hn : xs.length + (entB e).length ≤ 140737488351232) :
    Calls Try.prog 120 #[.pointer (some ⟨b, 0, none⟩), .pointer (some ⟨eb, 0, none⟩)] w (Wrote h w b v xs (entB e)) := by
  have hnl : (entB e).length = 42 + ((rulsB e.put).length + (intsB e.drop).length) := by rw [entB, List.length_append, List.length_append, flat_len]; rfl
  rw [hnl] at hn
  refine Calls.enterM (codM b v xs) [.atom (.ptr 0 0), .atom (.raw (.pointer (some ⟨eb, 0, none⟩)))] Try.func120 (c := bodyOf Try.f120) (by kernel_rfl) Try.ntmps120 (by kernel_rfl) hm ⟨⟨rfl, Nat.zero_lt_one⟩, ⟨rfl, rfl⟩, trivial⟩ (by simp) hs ?_
  refine G.runE tm 100 ?_
  refine G.draw [1] tm (by kernel_rfl) (by kernel_rfl) ?_
  refine GD.run (by kernel_rfl) 60 ?_
  refine GD.one 27 (by kernel_rfl) (GDop.callW 0 0 [2] (f := 118) (svs := [.atom (.ptr 0 0), .atom (.bsl 2 0 7 7)]) (d := some 31) (by kernel_rfl) (by kernel_rfl) (by kernel_rfl) (v := v) (n := xs.length) (xs := xs) (by kernel_rfl) (by kernel_rfl) (by kernel_rfl) (by kernel_rfl) (by kernel_rfl) rfl
    (zs := (entNs e).flatMap numV) (r := .tuple #[]) (n' := xs.length + 42) (by rw [flat_len]; rfl) (fun β w tmps l hS hl hsub hmem => ?_) fun v1 => ?_)
  · obtain ⟨a1, a2, rfl, ⟨rfl, -⟩, ⟨rfl, -⟩⟩ := args2 hl
    have h3 := hS.ptrs (ro := [2]) (q := 2) (bi := none) (T := 171) (cs := [.raw (.pointer (some ⟨eb, 0, none⟩)), .raw (.pointer (some ⟨eb, 1, none⟩)), .raw (.pointer (some ⟨eb, 2, none⟩)), .raw (.pointer (some ⟨eb, 3, none⟩)), .raw (.pointer (some ⟨eb, 4, none⟩)), .raw (.pointer (some ⟨eb, 5, none⟩)), .raw (.pointer (some ⟨eb, 6, none⟩))]) (l := entNs e) (by kernel_rfl) (by simp)
      ⟨⟨_, _, _, hp, rfl⟩, ⟨_, _, _, hp, rfl⟩, ⟨_, _, _, hp, rfl⟩, ⟨_, _, _, hp, rfl⟩, ⟨_, _, _, hp, rfl⟩, ⟨_, _, _, hp, rfl⟩, ⟨_, _, _, hp, rfl⟩, trivial⟩ (by simp [entNs])
    exact f118_ok (v := v) (xs := xs) h3 hmem hsub (by simp only [entNs, List.length_cons, List.length_nil]; omega)
  refine GD.run (by kernel_rfl) 50 ?_
  refine GD.fin (by kernel_rfl) ?_
  refine G.runE tm 100 ?_
  refine G.draw [1] tm (by kernel_rfl) (by kernel_rfl) ?_
  refine GD.run (by kernel_rfl) 60 ?_
  refine GD.one 7 (by kernel_rfl) (GDop.callW 0 0 [] (f := 145) (svs := [.atom (.ptr 0 0), .atom (.raw (.pointer (some ⟨eb, 7, none⟩))), .atom (.int .i64 30), .atom (.clo 146 true 0 0)]) (d := some 39) (by kernel_rfl) (by kernel_rfl) (by kernel_rfl) (v := v1) (n := xs.length + 42) (xs := xs ++ (entNs e).flatMap numV) (by kernel_rfl) (by kernel_rfl) (by kernel_rfl) (by kernel_rfl) (by kernel_rfl) (by rw [List.length_append, flat_len]; rfl)
    (zs := rulsB e.put) (r := .tuple #[]) (n' := xs.length + 42 + (rulsB e.put).length) rfl (fun β w tmps l hS hl hsub hmem => ?_) fun v2 => ?_)
  · obtain ⟨a1, a2, a3, a4, rfl, ⟨rfl, -⟩, ⟨rfl, -⟩, rfl, ⟨rfl, -⟩⟩ := args4 hl
    exact f145_ok (by decide) (hS.roLe [] _ _ hp) rfl (h1.mono (hS.roLe []) fun _ _ h => h) hmem hsub (by rw [List.length_append, flat_len]; simp only [entNs, List.length_cons, List.length_nil]; omega)
  refine GD.run (by kernel_rfl) 50 ?_
  refine GD.fin (by kernel_rfl) ?_
  refine G.runE tm 100 ?_
  refine G.draw [1] tm (by kernel_rfl) (by kernel_rfl) ?_
  refine GD.run (by kernel_rfl) 60 ?_
  refine GD.one 6 (by kernel_rfl) (GDop.callW 0 0 [1] (f := 147) (svs := [.atom (.ptr 0 0), .atom (.raw (.pointer (some ⟨eb, 8, none⟩))), .atom (.int .i64 6), .atom (.clo 148 false 1 0)]) (d := some 46) (by kernel_rfl) (by kernel_rfl) (by kernel_rfl) (v := v2) (n := xs.length + 42 + (rulsB e.put).length) (xs := (xs ++ (entNs e).flatMap numV) ++ rulsB e.put) (by kernel_rfl) (by kernel_rfl) (by kernel_rfl) (by kernel_rfl) (by kernel_rfl) (by rw [List.length_append, List.length_append, flat_len]; rfl)
    (zs := intsB e.drop) (r := .tuple #[]) (n' := xs.length + 42 + (rulsB e.put).length + (intsB e.drop).length) rfl (fun β w tmps l hS hl hsub hmem => ?_) fun v3 => ?_)
  · obtain ⟨a1, a2, a3, a4, rfl, ⟨rfl, -⟩, ⟨rfl, -⟩, rfl, ⟨rfl, -⟩⟩ := args4 hl
    exact f147_ok (by decide) (hS.roLe [1] _ _ hp) rfl (h2.mono (hS.roLe [1]) fun _ _ h => h) (hS.roPtr (bi := none) (T := 125) (by kernel_rfl) (by simp)) hmem hsub (by rw [List.length_append, List.length_append, flat_len]; simp only [entNs, List.length_cons, List.length_nil]; omega)
  refine GD.run (by kernel_rfl) 50 ?_
  refine GD.fin (by kernel_rfl) ?_
  refine G.runE tm 100 ?_
  exact G.retM (codM b v xs) Try.func120 Try.results120 (.tuple #[]) (by kernel_rfl) rfl ⟨[(b, codB v3 (xs.length + 42 + (rulsB e.put).length + (intsB e.drop).length))], [⟨5, 1, v3, xs.length + 42 + (rulsB e.put).length + (intsB e.drop).length, ((xs ++ (entNs e).flatMap numV) ++ rulsB e.put) ++ intsB e.drop⟩]⟩ (nb := 1) (no := 1) (by kernel_rfl) (by kernel_rfl) rfl fun w' hg =>
    ⟨v3, rfl, mk_wrote hg (by rw [List.length_append, hnl]; omega) (by simp only [entB, List.append_assoc])⟩

/-- A list of entries, written. -/
def entsB (l : List Ent) : List Value := numV l.length ++ l.flatMap entB

theorem f119_ok {b sb so : Nat} {v lv : Value} {xs : List Value} {l : List Ent} {k : Int} {arr : Array Value} {T : TypeId} {fr : Nat × Nat} (hk : 0 < k) (hp : h sb = some (.cells arr T fr)) (ht : arr[so]? = some lv) (hl : EntsR h lv l)
    (hm : MemOk h w (codM b v xs)) (hs : Sub h w) (hn : xs.length + (entsB l).length ≤ 140737488351232) :
    Calls Try.prog 119 #[.pointer (some ⟨b, 0, none⟩), .pointer (some ⟨sb, so, none⟩), .int .i64 k, .func (.func 120) #[.pointer (some ⟨b, 0, none⟩)] #[]] w (Wrote h w b v xs (entsB l)) := by
  have hlen := SlR.len hl
  rw [entsB, List.length_append, numV_len] at hn
  refine Calls.enterM (codM b v xs) [.atom (.ptr 0 0), .atom (.raw (.pointer (some ⟨sb, so, none⟩))), .atom (.int .i64 k), .atom (.clo 120 true 0 0)] Try.func119 (c := bodyOf Try.f119) (by kernel_rfl) Try.ntmps119 (by kernel_rfl) hm
    ⟨⟨rfl, Nat.zero_lt_one⟩, ⟨rfl, rfl⟩, rfl, ⟨rfl, Nat.zero_lt_one⟩, trivial⟩ (by simp) hs ?_
  refine G.runE tm 100 ?_
  refine G.sem (m := valS (Instr.loadAt 22 (.pointer (some ⟨sb, so, none⟩)))) (d := some 16) (g := none) (by kernel_rfl) (by kernel_rfl) lv (.atom (.sl lv l.length)) (SlR.sv hl) (says_of fun w hw => run_valS (loadCell Try.underlying22 rfl hp ht hw)) ?_
  refine G.runE tm 100 ?_
  refine G.callW 0 0 [] (f := 144) (svs := [.atom (.ptr 0 0), .atom (.int .i64 l.length), .atom (.int .i64 k)]) (d := some 19) (by kernel_rfl) (by kernel_rfl) (by kernel_rfl) (v := v) (n := xs.length) (xs := xs) (by kernel_rfl) (by kernel_rfl) (by kernel_rfl) rfl
    (zs := numV l.length) (r := .int .i64 l.length) (n' := xs.length + 6) (by rw [numV_len]) (fun β w tmps l hS hl hsub hmem => ?_) fun v1 => ?_
  · obtain ⟨a1, a2, a3, rfl, ⟨rfl, -⟩, rfl, rfl⟩ := args3 hl
    exact f144_ok hk hmem hsub (by omega)
  refine G.runE tm 100 ?_
  refine G.condT (b := true) (by kernel_rfl) rfl ?_
  refine G.runE tm 100 ?_
  refine G.sem (m := valS (Instr.loadAt 22 (.pointer (some ⟨sb, so, none⟩)))) (d := some 26) (g := none) (by kernel_rfl) (by kernel_rfl) lv (.atom (.sl lv l.length)) (SlR.sv hl) (says_of fun w hw => run_valS (loadCell Try.underlying22 rfl hp ht hw)) ?_
  refine G.runE tm 100 ?_
  refine G.loop (α := Nat × Value × List Value × Nat)
    (fun x => ⟨[(0, .one (.atom (.ptr 0 0))), (3, .one (.atom (.clo 120 true 0 0))), (26, .one (.atom (.sl lv l.length))), (27, .one (.atom (.int .i64 l.length))), (28, .one (.atom (.int .i64 x.1)))],
      [(0, ⟨some b, codB x.2.1 x.2.2.2⟩)], 1, [(0, ⟨5, 1, x.2.1, x.2.2.2, x.2.2.1⟩)]⟩)
    (fun x g => g = h ∧ x.1 ≤ l.length ∧ x.2.2.1 = xs ++ (numV l.length ++ (l.take x.1).flatMap entB) ∧ x.2.2.2 = x.2.2.1.length) (fun x => l.length - x.1) (0, v1, xs ++ numV l.length, xs.length + 6) [0, 3, 26, 27, 28] [0] 1 [0] (by kernel_rfl) (by kernel_rfl) (by kernel_rfl)
      ⟨rfl, Nat.zero_le _, by simp, by simp [numV_len]⟩ ?_
  rintro ⟨i, u, ys, m⟩ g ⟨rfl, hi, hys, hml⟩ IH
  simp only at hi hys hml
  refine G.runE tm 100 ?_
  refine G.cond (decide ((i : Int) < (l.length : Int))) (by kernel_rfl) (fun hc1 => ?_) (fun hc1 => ?_)
  · have hlt : i < l.length := by simpa using hc1
    obtain ⟨x, hx⟩ := get_of_lt hlt
    have hbd := flat_take_le (f := entB) hx
    have hml2 : m = xs.length + 6 + ((l.take i).flatMap entB).length := by rw [hml, hys]; simp only [List.length_append, numV_len]; omega
    refine G.runE tm 100 ?_
    refine G.idx (d1 := some 30) (g := none) (T := 22) (E := 34) hl Try.underlying22 z34 hlt (by kernel_rfl) (by kernel_rfl) ?_
    refine G.elEnt (d1 := some 31) (g := none) (E := 34) hl z34 u34 hx (by kernel_rfl) (by kernel_rfl) fun p d hpp hdd => ?_
    refine G.runE tm 100 ?_
    refine G.callW 0 0 [1] (f := 120) (svs := [.atom (.ptr 0 0), .atom (.ptr 1 0)]) (d := some 33) (by kernel_rfl) (by kernel_rfl) (by kernel_rfl) (v := u) (n := m) (xs := ys) (by kernel_rfl) (by kernel_rfl) (by kernel_rfl) hml
      (zs := entB x) (r := .tuple #[]) (n' := m + (entB x).length) rfl (fun β w tmps l hS hl hsub hmem => ?_) fun v2 => ?_
    · obtain ⟨a1, a2, rfl, ⟨rfl, -⟩, ⟨rfl, -⟩⟩ := args2 hl
      have hβ : β 0 = b := hS.key (x := codB u m) (by kernel_rfl)
      rw [hβ] at hmem ⊢
      exact f120_ok (hS.roCells (ro := [1]) (k := 1) (bi := none) (T := 34) (cs := entC x p d) (vs := (entA x p d).toList) (by kernel_rfl) (by simp) rfl) (hpp.mono (hS.roLe [1]) fun _ _ h => h) (hdd.mono (hS.roLe [1]) fun _ _ h => h) hmem hsub (by rw [← hml]; omega)
    refine G.runE tm 100 ?_
    refine G.reint (k := .i64) 28 (by kernel_rfl) (wrap_succ hlt hlen) ?_
    refine G.back (by kernel_rfl) [0, 3, 26, 27, 28] [0] 1 [0] (by kernel_rfl) (by kernel_rfl) (IH (i + 1, v2, ys ++ entB x, m + (entB x).length) _ ⟨rfl, hlt, ?_, ?_⟩ (by simp only; omega))
    · simp only; rw [flat_snoc hx, hys]; simp only [List.append_assoc]
    · simp only [List.length_append]; omega
  · obtain rfl : i = l.length := by simp at hc1; omega
    refine G.runE tm 100 ?_
    rw [List.take_length] at hys
    exact G.retM (codM b v xs) Try.func119 Try.results119 (.tuple #[]) (by kernel_rfl) rfl ⟨[(b, codB u m)], [⟨5, 1, u, m, ys⟩]⟩ (nb := 1) (no := 1) (by kernel_rfl) (by kernel_rfl) rfl fun w' hg =>
      ⟨u, rfl, mk_wrote hg (by rw [hml, hys]; rfl) hys⟩

end w
end Go.Proofs.Ytkjahaoobdbffaa

/- The codec as a writer: messages and records. -/
namespace Go.Proofs.Ytkjahaoobdbffaa
open Go Go.RowKit
attribute [local irreducible] G GD GDop

section w
variable {h : GH} {w : World}

def msgNs (m : Msg) : List Int := [m.kind, m.view, m.frm, m.to, m.op, m.commit, m.normal]
def msgB (m : Msg) : List Value := (msgNs m).flatMap numV ++ entsB m.log
def msgA (m : Msg) (p : Value) : Array Value := #[.int .i64 m.kind, .int .i64 m.view, .int .i64 m.frm, .int .i64 m.to, .int .i64 m.op, .int .i64 m.commit, .int .i64 m.normal, p]
def rcdNs (m : Rcd) : List Int := [m.kind, m.a, m.b]
def rcdB (m : Rcd) : List Value := (rcdNs m).flatMap numV ++ entsB m.log
def rcdA (m : Rcd) (p : Value) : Array Value := #[.int .i64 m.kind, .int .i64 m.a, .int .i64 m.b, p]

theorem f71_ok {b : Nat} {v : Value} {xs : List Value} {eb : Nat} {T : TypeId} {fr : Nat × Nat} {e : Msg} {p : Value} (hp : h eb = some (.cells (msgA e p) T fr)) (h1 : EntsR h p e.log) (hm : MemOk h w (codM b v xs)) (hs : Sub h w) (hn : xs.length + (msgB e).length ≤ 140737488351232) :
    Calls Try.prog 71 #[.pointer (some ⟨b, 0, none⟩), .pointer (some ⟨eb, 0, none⟩)] w (Wrote h w b v xs (msgB e)) := by
  have hnl : (msgB e).length = 42 + (entsB e.log).length := by rw [msgB, List.length_append, flat_len]; rfl
  rw [hnl] at hn
  refine Calls.enterM (codM b v xs) [.atom (.ptr 0 0), .atom (.raw (.pointer (some ⟨eb, 0, none⟩)))] Try.func71 (c := bodyOf Try.f71) (by kernel_rfl) Try.ntmps71 (by kernel_rfl) hm ⟨⟨rfl, Nat.zero_lt_one⟩, ⟨rfl, rfl⟩, trivial⟩ (by simp) hs ?_
  refine G.runE tm 100 ?_
  refine G.draw [] tm (by kernel_rfl) (by kernel_rfl) ?_
  refine GD.run (by kernel_rfl) 60 ?_
  refine GD.one 23 (by kernel_rfl) (GDop.callW 0 0 [1] (f := 118) (svs := [.atom (.ptr 0 0), .atom (.bsl 1 0 7 7)]) (d := some 27) (by kernel_rfl) (by kernel_rfl) (by kernel_rfl) (v := v) (n := xs.length) (xs := xs) (by kernel_rfl) (by kernel_rfl) (by kernel_rfl) (by kernel_rfl) (by kernel_rfl) rfl
    (zs := (msgNs e).flatMap numV) (r := .tuple #[]) (n' := xs.length + 42) (by rw [flat_len]; rfl) (fun β w tmps l hS hl hsub hmem => ?_) fun v1 => ?_)
  · obtain ⟨a1, a2, rfl, ⟨rfl, -⟩, ⟨rfl, -⟩⟩ := args2 hl
    have h3 := hS.ptrs (ro := [1]) (q := 1) (bi := none) (T := 171) (cs := [.raw (.pointer (some ⟨eb, 0, none⟩)), .raw (.pointer (some ⟨eb, 1, none⟩)), .raw (.pointer (some ⟨eb, 2, none⟩)), .raw (.pointer (some ⟨eb, 3, none⟩)), .raw (.pointer (some ⟨eb, 4, none⟩)), .raw (.pointer (some ⟨eb, 5, none⟩)), .raw (.pointer (some ⟨eb, 6, none⟩))]) (l := msgNs e) (by kernel_rfl) (by simp)
      ⟨⟨_, _, _, hp, rfl⟩, ⟨_, _, _, hp, rfl⟩, ⟨_, _, _, hp, rfl⟩, ⟨_, _, _, hp, rfl⟩, ⟨_, _, _, hp, rfl⟩, ⟨_, _, _, hp, rfl⟩, ⟨_, _, _, hp, rfl⟩, trivial⟩ (by simp [msgNs])
    exact f118_ok (v := v) (xs := xs) h3 hmem hsub (by simp only [msgNs, List.length_cons, List.length_nil]; omega)
  refine GD.run (by kernel_rfl) 50 ?_
  refine GD.fin (by kernel_rfl) ?_
  refine G.runE tm 100 ?_
  refine G.callW 0 0 [] (f := 119) (svs := [.atom (.ptr 0 0), .atom (.raw (.pointer (some ⟨eb, 7, none⟩))), .atom (.int .i64 54), .atom (.clo 120 true 0 0)]) (d := some 34) (by kernel_rfl) (by kernel_rfl) (by kernel_rfl) (v := v1) (n := xs.length + 42) (xs := xs ++ (msgNs e).flatMap numV) (by kernel_rfl) (by kernel_rfl) (by kernel_rfl) (by rw [List.length_append, flat_len]; rfl)
    (zs := entsB e.log) (r := .tuple #[]) (n' := xs.length + 42 + (entsB e.log).length) rfl (fun β w tmps l hS hl hsub hmem => ?_) fun v2 => ?_
  · obtain ⟨a1, a2, a3, a4, rfl, ⟨rfl, -⟩, ⟨rfl, -⟩, rfl, ⟨rfl, -⟩⟩ := args4 hl
    exact f119_ok (by decide) (hS.roLe [] _ _ hp) rfl (h1.mono (hS.roLe [])) hmem hsub (by rw [List.length_append, flat_len]; simp only [msgNs, List.length_cons, List.length_nil]; omega)
  refine G.runE tm 100 ?_
  exact G.retM (codM b v xs) Try.func71 Try.results71 (.tuple #[]) (by kernel_rfl) rfl ⟨[(b, codB v2 (xs.length + 42 + (entsB e.log).length))], [⟨5, 1, v2, xs.length + 42 + (entsB e.log).length, (xs ++ (msgNs e).flatMap numV) ++ entsB e.log⟩]⟩ (nb := 1) (no := 1) (by kernel_rfl) (by kernel_rfl) rfl fun w' hg =>
    ⟨v2, rfl, mk_wrote hg (by rw [List.length_append, hnl]; omega) (by simp only [msgB, List.append_assoc])⟩

theorem f112_ok {b : Nat} {v : Value} {xs : List Value} {eb : Nat} {T : TypeId} {fr : Nat × Nat} {e : Rcd} {p : Value} (hp : h eb = some (.cells (rcdA e p) T fr)) (h1 : EntsR h p e.log) (hm : MemOk h w (codM b v xs)) (hs : Sub h w) (hn : xs.length + (rcdB e).length ≤ 140737488351232) :
    Calls Try.prog 112 #[.pointer (some ⟨b, 0, none⟩), .pointer (some ⟨eb, 0, none⟩)] w (Wrote h w b v xs (rcdB e)) := by
  have hnl : (rcdB e).length = 18 + (entsB e.log).length := by rw [rcdB, List.length_append, flat_len]; rfl
  rw [hnl] at hn
  refine Calls.enterM (codM b v xs) [.atom (.ptr 0 0), .atom (.raw (.pointer (some ⟨eb, 0, none⟩)))] Try.func112 (c := bodyOf Try.f112) (by kernel_rfl) Try.ntmps112 (by kernel_rfl) hm ⟨⟨rfl, Nat.zero_lt_one⟩, ⟨rfl, rfl⟩, trivial⟩ (by simp) hs ?_
  refine G.runE tm 100 ?_
  refine G.draw [] tm (by kernel_rfl) (by kernel_rfl) ?_
  refine GD.run (by kernel_rfl) 60 ?_
  refine GD.one 11 (by kernel_rfl) (GDop.callW 0 0 [1] (f := 118) (svs := [.atom (.ptr 0 0), .atom (.bsl 1 0 3 3)]) (d := some 15) (by kernel_rfl) (by kernel_rfl) (by kernel_rfl) (v := v) (n := xs.length) (xs := xs) (by kernel_rfl) (by kernel_rfl) (by kernel_rfl) (by kernel_rfl) (by kernel_rfl) rfl
    (zs := (rcdNs e).flatMap numV) (r := .tuple #[]) (n' := xs.length + 18) (by rw [flat_len]; rfl) (fun β w tmps l hS hl hsub hmem => ?_) fun v1 => ?_)
  · obtain ⟨a1, a2, rfl, ⟨rfl, -⟩, ⟨rfl, -⟩⟩ := args2 hl
    have h3 := hS.ptrs (ro := [1]) (q := 1) (bi := none) (T := 171) (cs := [.raw (.pointer (some ⟨eb, 0, none⟩)), .raw (.pointer (some ⟨eb, 1, none⟩)), .raw (.pointer (some ⟨eb, 2, none⟩))]) (l := rcdNs e) (by kernel_rfl) (by simp)
      ⟨⟨_, _, _, hp, rfl⟩, ⟨_, _, _, hp, rfl⟩, ⟨_, _, _, hp, rfl⟩, trivial⟩ (by simp [rcdNs])
    exact f118_ok (v := v) (xs := xs) h3 hmem hsub (by simp only [rcdNs, List.length_cons, List.length_nil]; omega)
  refine GD.run (by kernel_rfl) 50 ?_
  refine GD.fin (by kernel_rfl) ?_
  refine G.runE tm 100 ?_
  refine G.callW 0 0 [] (f := 119) (svs := [.atom (.ptr 0 0), .atom (.raw (.pointer (some ⟨eb, 3, none⟩))), .atom (.int .i64 54), .atom (.clo 120 true 0 0)]) (d := some 22) (by kernel_rfl) (by kernel_rfl) (by kernel_rfl) (v := v1) (n := xs.length + 18) (xs := xs ++ (rcdNs e).flatMap numV) (by kernel_rfl) (by kernel_rfl) (by kernel_rfl) (by rw [List.length_append, flat_len]; rfl)
    (zs := entsB e.log) (r := .tuple #[]) (n' := xs.length + 18 + (entsB e.log).length) rfl (fun β w tmps l hS hl hsub hmem => ?_) fun v2 => ?_
  · obtain ⟨a1, a2, a3, a4, rfl, ⟨rfl, -⟩, ⟨rfl, -⟩, rfl, ⟨rfl, -⟩⟩ := args4 hl
    exact f119_ok (by decide) (hS.roLe [] _ _ hp) rfl (h1.mono (hS.roLe [])) hmem hsub (by rw [List.length_append, flat_len]; simp only [rcdNs, List.length_cons, List.length_nil]; omega)
  refine G.runE tm 100 ?_
  exact G.retM (codM b v xs) Try.func112 Try.results112 (.tuple #[]) (by kernel_rfl) rfl ⟨[(b, codB v2 (xs.length + 18 + (entsB e.log).length))], [⟨5, 1, v2, xs.length + 18 + (entsB e.log).length, (xs ++ (rcdNs e).flatMap numV) ++ entsB e.log⟩]⟩ (nb := 1) (no := 1) (by kernel_rfl) (by kernel_rfl) rfl fun w' hg =>
    ⟨v2, rfl, mk_wrote hg (by rw [List.length_append, hnl]; omega) (by simp only [rcdB, List.append_assoc])⟩

/-- What a writer hands out at its end. -/
def writtenV (v : Value) (n : Nat) (ok : Bool) : Value := if ok = true then (if n > 65536 then .tuple #[.slice none 0 0, .int .i64 12] else .tuple #[v, .int .i64 0]) else .tuple #[.slice none 0 0, .int .i64 10]

theorem f72_ok {b : Nat} {v : Value} {xs : List Value} {ok : Bool} (hm : MemOk h w (codM b v xs)) (hs : Sub h w) :
    Calls Try.prog 72 #[.pointer (some ⟨b, 0, none⟩), .bool ok] w fun e w' => e = .returned (writtenV v xs.length ok) ∧ Mend h w (codM b v xs) h w' (codM b v xs) := by
  refine Calls.enterM (codM b v xs) [.atom (.ptr 0 0), .atom (.bool ok)] Try.func72 (c := bodyOf Try.f72) (by kernel_rfl) Try.ntmps72 (by kernel_rfl) hm ⟨⟨rfl, Nat.zero_lt_one⟩, rfl, trivial⟩ (by simp) hs ?_
  refine G.runE tm 100 ?_
  refine G.cond (!ok) (by kernel_rfl) (fun hc => ?_) (fun hc => ?_)
  · refine G.runE tm 100 ?_
    have : ok = false := by simpa using hc
    subst this
    exact G.retM (codM b v xs) Try.func72 Try.results72 (.tuple #[.slice none 0 0, .int .i64 10]) (by kernel_rfl) rfl (codM b v xs) (nb := 1) (no := 1) (by kernel_rfl) (by kernel_rfl) rfl fun w' hg => ⟨by simp [writtenV], hg⟩
  have : ok = true := by simpa using hc
  subst this
  refine G.runE tm 100 ?_
  refine G.cond (decide ((xs.length : Int) > 65536)) (by kernel_rfl) (fun hc => ?_) (fun hc => ?_)
  · refine G.runE tm 100 ?_
    have hc : xs.length > 65536 := by simp at hc; omega
    exact G.retM (codM b v xs) Try.func72 Try.results72 (.tuple #[.slice none 0 0, .int .i64 12]) (by kernel_rfl) rfl (codM b v xs) (nb := 1) (no := 1) (by kernel_rfl) (by kernel_rfl) rfl fun w' hg => ⟨by simp [writtenV, hc], hg⟩
  · refine G.runE tm 100 ?_
    have hc : ¬ xs.length > 65536 := by simp at hc; omega
    exact G.retM (codM b v xs) Try.func72 Try.results72 (.tuple #[v, .int .i64 0]) (by kernel_rfl) rfl (codM b v xs) (nb := 1) (no := 1) (by kernel_rfl) (by kernel_rfl) rfl fun w' hg => ⟨by simp only [writtenV, if_true, if_neg hc], hg⟩
end w
end Go.Proofs.Ytkjahaoobdbffaa

/- Encode and EncodeRecord. -/
namespace Go.Proofs.Ytkjahaoobdbffaa
open Go Go.RowKit
attribute [local irreducible] G GD GDop

/-- A slice of known cells. -/
def CellR (cs : List Value) (x : Value) : Prop := cs = [x]
def BytesR (h : GH) (v : Value) (xs : List Value) : Prop := SlR h 1 CellR v xs

theorem listR_cells (xs : List Value) : ListR 1 CellR xs xs := by
  refine ⟨by simp, fun i x hx => ?_⟩
  obtain ⟨hi, rfl⟩ := List.getElem?_eq_some_iff.1 hx
  rw [Nat.mul_one, List.drop_eq_getElem_cons hi]
  rfl

/-- What an encoder answers: the bytes, or an error. -/
def Encoded (h : GH) (w : World) (ok : Bool) (xs : List Value) (e : Ending) (w' : World) : Prop :=
  ∃ v err h', e = .returned (.tuple #[v, .int .i64 err]) ∧ Grow h w h' w' ∧ (err = 0 → ok = true ∧ xs.length ≤ 65536 ∧ BytesR h' v xs) ∧ (ok = true → xs.length ≤ 65536 → err = 0) ∧ (∃ a n c, v = .slice a n c)

section w
variable {h : GH} {w : World}

theorem f20_ok {p : Value} {m : Msg} (hp : EntsR h p m.log) (hs : Sub h w) (hn : (msgB m).length ≤ 140737488351232) :
    Calls Try.prog 20 #[msgV m p] w (Encoded h w (msgRight m) (msgB m)) := by
  refine Calls.enter [.agg (msgC m p)] Try.func20 (c := bodyOf Try.f20) (by kernel_rfl) Try.ntmps20 ⟨msgC_ok hp _ _, trivial⟩ (by simp) hs ?_
  refine G.runE tm 100 ?_
  refine G.ownNil 0 5 1 ?_
  refine G.callV (f := 40) (svs := [.agg (msgC m p)]) (d := some 9) (by kernel_rfl) [msgV m p] (.bool (msgRight m)) (by kernel_rfl) (by kernel_rfl) (by kernel_rfl) (fun w hs => f40_ok hp hs) ?_
  refine G.runE tm 100 ?_
  refine G.cond (msgRight m) (by kernel_rfl) (fun hc => ?_) (fun hc => ?_)
  · refine G.runE tm 100 ?_
    refine G.callW 1 0 [0] (f := 71) (svs := [.atom (.ptr 1 0), .atom (.ptr 0 0)]) (d := some 12) (by kernel_rfl) (by kernel_rfl) (by kernel_rfl) (v := .slice none 0 0) (n := 0) (xs := []) (by kernel_rfl) (by kernel_rfl) (by kernel_rfl) rfl
      (zs := msgB m) (r := .tuple #[]) (n' := (msgB m).length) (by rw [Nat.zero_add]) (fun β w tmps l hS hl hsub hmem => ?_) fun v1 => ?_
    · obtain ⟨a1, a2, rfl, ⟨rfl, -⟩, ⟨rfl, -⟩⟩ := args2 hl
      exact f71_ok (hS.roCells (ro := [0]) (k := 0) (bi := none) (T := 45) (cs := msgC m p) (vs := (msgA m p).toList) (by kernel_rfl) (by simp) rfl) (hp.mono (hS.roLe [0])) hmem hsub (by simpa using hn)
    refine G.runE tm 100 ?_
    refine G.ownForm 0 (e := 5) (sz := 1) (n := (msgB m).length) (v := v1) (xs := msgB m) (by kernel_rfl) fun hform => ?_
    refine G.callM [1] [0] [] (f := 72) (svs := [.atom (.ptr 1 0), .atom (.bool (msgRight m))]) (d := some 15) (by kernel_rfl) (by kernel_rfl) (by kernel_rfl) (bs := [codB v1 (msgB m).length]) (os := [⟨5, 1, v1, (msgB m).length, msgB m⟩]) (by kernel_rfl) (by kernel_rfl) (by kernel_rfl)
      (fun h' r bs os => h' = h ∧ r = writtenV v1 (msgB m).length (msgRight m) ∧ bs = [codB v1 (msgB m).length] ∧ os = [⟨5, 1, v1, (msgB m).length, msgB m⟩]) (fun β w tmps l hS hl hsub hmem => ?_) ?_
    · obtain ⟨a1, a2, rfl, ⟨rfl, -⟩, rfl⟩ := args2 hl
      refine (f72_ok (b := β 1) (v := v1) (xs := msgB m) hmem hsub).mono ?_
      rintro e w' ⟨rfl, hmend⟩
      exact ⟨_, [codB v1 (msgB m).length], [⟨5, 1, v1, (msgB m).length, msgB m⟩], _, rfl, rfl, rfl, hmend, hS.hideRo rfl, rfl, rfl, rfl⟩
    rintro h' r bs os ⟨rfl, rfl, rfl, rfl⟩ -
    rw [hc]
    by_cases hbig : (msgB m).length > 65536
    · rw [show writtenV v1 (msgB m).length true = .tuple #[.slice none 0 0, .int .i64 12] by simp [writtenV, hbig]]
      refine ⟨.tup [.atom (.sl (.slice none 0 0) 0), .atom (.int .i64 12)], fun N β tmps => ⟨_, rfl, ⟨rfl, none, 0, rfl⟩, rfl, trivial⟩, ?_⟩
      refine G.runE tm 100 ?_
      exact G.retG Try.func20 Try.results20 (.tuple #[.slice none 0 0, .int .i64 12]) (by kernel_rfl) rfl fun w' hg => ⟨_, _, _, rfl, hg, fun e => by simp at e, fun _ h2 => by omega, _, _, _, rfl⟩
    · have hlt : (msgB m).length ≤ 65536 := by omega
      rw [show writtenV v1 (msgB m).length true = .tuple #[v1, .int .i64 0] by simp [writtenV, hbig]]
      refine ⟨.tup [.atom (.sl v1 (msgB m).length), .atom (.int .i64 0)], fun N β tmps => ⟨_, rfl, ⟨rfl, hform⟩, rfl, trivial⟩, ?_⟩
      refine G.runE tm 100 ?_
      refine G.freeze 0 (e := 5) (sz := 1) (v := v1) (m := (msgB m).length) (xs := msgB m) (by kernel_rfl) fun h' hle hf _ => ?_
      obtain ⟨a, cc, hv1⟩ := hform
      exact G.retG Try.func20 Try.results20 (.tuple #[v1, .int .i64 0]) (by kernel_rfl) rfl fun w' hg => ⟨v1, 0, h', rfl, hg, fun _ => ⟨rfl, hlt, SlR.of_freeze hf (listR_cells _) rfl hn⟩, fun _ _ => rfl, a, _, cc, hv1⟩
  · refine G.runE tm 100 ?_
    refine G.callM [1] [0] [] (f := 72) (svs := [.atom (.ptr 1 0), .atom (.bool (msgRight m))]) (d := some 15) (by kernel_rfl) (by kernel_rfl) (by kernel_rfl) (bs := [codB (.slice none 0 0) 0]) (os := [⟨5, 1, .slice none 0 0, 0, []⟩]) (by kernel_rfl) (by kernel_rfl) (by kernel_rfl)
      (fun h' r bs os => h' = h ∧ r = writtenV (.slice none 0 0) 0 (msgRight m) ∧ bs = [codB (.slice none 0 0) 0] ∧ os = [⟨5, 1, .slice none 0 0, 0, []⟩]) (fun β w tmps l hS hl hsub hmem => ?_) ?_
    · obtain ⟨a1, a2, rfl, ⟨rfl, -⟩, rfl⟩ := args2 hl
      refine (f72_ok (b := β 1) (v := .slice none 0 0) (xs := []) hmem hsub).mono ?_
      rintro e w' ⟨rfl, hmend⟩
      exact ⟨_, [codB (.slice none 0 0) 0], [⟨5, 1, .slice none 0 0, 0, []⟩], _, rfl, rfl, rfl, hmend, hS.hideRo rfl, rfl, rfl, rfl⟩
    rintro h' r bs os ⟨rfl, rfl, rfl, rfl⟩ -
    rw [hc]
    refine ⟨.tup [.atom (.sl (.slice none 0 0) 0), .atom (.int .i64 10)], fun N β tmps => ⟨_, rfl, ⟨rfl, none, 0, rfl⟩, rfl, trivial⟩, ?_⟩
    refine G.runE tm 100 ?_
    exact G.retG Try.func20 Try.results20 (.tuple #[.slice none 0 0, .int .i64 10]) (by kernel_rfl) rfl fun w' hg => ⟨_, _, _, rfl, hg, fun e => by simp at e, fun h2 => by simp at h2, _, _, _, rfl⟩
theorem f57_ok {p : Value} {m : Rcd} (hp : EntsR h p m.log) (hs : Sub h w) (hn : (rcdB m).length ≤ 140737488351232) :
    Calls Try.prog 57 #[rcdV m p] w (Encoded h w (rcdRight m) (rcdB m)) := by
  refine Calls.enter [.agg (rcdC m p)] Try.func57 (c := bodyOf Try.f57) (by kernel_rfl) Try.ntmps57 ⟨rcdC_ok hp _ _, trivial⟩ (by simp) hs ?_
  refine G.runE tm 100 ?_
  refine G.ownNil 0 5 1 ?_
  refine G.callV (f := 111) (svs := [.agg (rcdC m p)]) (d := some 9) (by kernel_rfl) [rcdV m p] (.bool (rcdRight m)) (by kernel_rfl) (by kernel_rfl) (by kernel_rfl) (fun w hs => f111_ok hp hs) ?_
  refine G.runE tm 100 ?_
  refine G.cond (rcdRight m) (by kernel_rfl) (fun hc => ?_) (fun hc => ?_)
  · refine G.runE tm 100 ?_
    refine G.callW 1 0 [0] (f := 112) (svs := [.atom (.ptr 1 0), .atom (.ptr 0 0)]) (d := some 12) (by kernel_rfl) (by kernel_rfl) (by kernel_rfl) (v := .slice none 0 0) (n := 0) (xs := []) (by kernel_rfl) (by kernel_rfl) (by kernel_rfl) rfl
      (zs := rcdB m) (r := .tuple #[]) (n' := (rcdB m).length) (by rw [Nat.zero_add]) (fun β w tmps l hS hl hsub hmem => ?_) fun v1 => ?_
    · obtain ⟨a1, a2, rfl, ⟨rfl, -⟩, ⟨rfl, -⟩⟩ := args2 hl
      exact f112_ok (hS.roCells (ro := [0]) (k := 0) (bi := none) (T := 110) (cs := rcdC m p) (vs := (rcdA m p).toList) (by kernel_rfl) (by simp) rfl) (hp.mono (hS.roLe [0])) hmem hsub (by simpa using hn)
    refine G.runE tm 100 ?_
    refine G.ownForm 0 (e := 5) (sz := 1) (n := (rcdB m).length) (v := v1) (xs := rcdB m) (by kernel_rfl) fun hform => ?_
    refine G.callM [1] [0] [] (f := 72) (svs := [.atom (.ptr 1 0), .atom (.bool (rcdRight m))]) (d := some 15) (by kernel_rfl) (by kernel_rfl) (by kernel_rfl) (bs := [codB v1 (rcdB m).length]) (os := [⟨5, 1, v1, (rcdB m).length, rcdB m⟩]) (by kernel_rfl) (by kernel_rfl) (by kernel_rfl)
      (fun h' r bs os => h' = h ∧ r = writtenV v1 (rcdB m).length (rcdRight m) ∧ bs = [codB v1 (rcdB m).length] ∧ os = [⟨5, 1, v1, (rcdB m).length, rcdB m⟩]) (fun β w tmps l hS hl hsub hmem => ?_) ?_
    · obtain ⟨a1, a2, rfl, ⟨rfl, -⟩, rfl⟩ := args2 hl
      refine (f72_ok (b := β 1) (v := v1) (xs := rcdB m) hmem hsub).mono ?_
      rintro e w' ⟨rfl, hmend⟩
      exact ⟨_, [codB v1 (rcdB m).length], [⟨5, 1, v1, (rcdB m).length, rcdB m⟩], _, rfl, rfl, rfl, hmend, hS.hideRo rfl, rfl, rfl, rfl⟩
    rintro h' r bs os ⟨rfl, rfl, rfl, rfl⟩ -
    rw [hc]
    by_cases hbig : (rcdB m).length > 65536
    · rw [show writtenV v1 (rcdB m).length true = .tuple #[.slice none 0 0, .int .i64 12] by simp [writtenV, hbig]]
      refine ⟨.tup [.atom (.sl (.slice none 0 0) 0), .atom (.int .i64 12)], fun N β tmps => ⟨_, rfl, ⟨rfl, none, 0, rfl⟩, rfl, trivial⟩, ?_⟩
      refine G.runE tm 100 ?_
      exact G.retG Try.func57 Try.results57 (.tuple #[.slice none 0 0, .int .i64 12]) (by kernel_rfl) rfl fun w' hg => ⟨_, _, _, rfl, hg, fun e => by simp at e, fun _ h2 => by omega, _, _, _, rfl⟩
    · have hlt : (rcdB m).length ≤ 65536 := by omega
      rw [show writtenV v1 (rcdB m).length true = .tuple #[v1, .int .i64 0] by simp [writtenV, hbig]]
      refine ⟨.tup [.atom (.sl v1 (rcdB m).length), .atom (.int .i64 0)], fun N β tmps => ⟨_, rfl, ⟨rfl, hform⟩, rfl, trivial⟩, ?_⟩
      refine G.runE tm 100 ?_
      refine G.freeze 0 (e := 5) (sz := 1) (v := v1) (m := (rcdB m).length) (xs := rcdB m) (by kernel_rfl) fun h' hle hf _ => ?_
      obtain ⟨a, cc, hv1⟩ := hform
      exact G.retG Try.func57 Try.results57 (.tuple #[v1, .int .i64 0]) (by kernel_rfl) rfl fun w' hg => ⟨v1, 0, h', rfl, hg, fun _ => ⟨rfl, hlt, SlR.of_freeze hf (listR_cells _) rfl hn⟩, fun _ _ => rfl, a, _, cc, hv1⟩
  · refine G.runE tm 100 ?_
    refine G.callM [1] [0] [] (f := 72) (svs := [.atom (.ptr 1 0), .atom (.bool (rcdRight m))]) (d := some 15) (by kernel_rfl) (by kernel_rfl) (by kernel_rfl) (bs := [codB (.slice none 0 0) 0]) (os := [⟨5, 1, .slice none 0 0, 0, []⟩]) (by kernel_rfl) (by kernel_rfl) (by kernel_rfl)
      (fun h' r bs os => h' = h ∧ r = writtenV (.slice none 0 0) 0 (rcdRight m) ∧ bs = [codB (.slice none 0 0) 0] ∧ os = [⟨5, 1, .slice none 0 0, 0, []⟩]) (fun β w tmps l hS hl hsub hmem => ?_) ?_
    · obtain ⟨a1, a2, rfl, ⟨rfl, -⟩, rfl⟩ := args2 hl
      refine (f72_ok (b := β 1) (v := .slice none 0 0) (xs := []) hmem hsub).mono ?_
      rintro e w' ⟨rfl, hmend⟩
      exact ⟨_, [codB (.slice none 0 0) 0], [⟨5, 1, .slice none 0 0, 0, []⟩], _, rfl, rfl, rfl, hmend, hS.hideRo rfl, rfl, rfl, rfl⟩
    rintro h' r bs os ⟨rfl, rfl, rfl, rfl⟩ -
    rw [hc]
    refine ⟨.tup [.atom (.sl (.slice none 0 0) 0), .atom (.int .i64 10)], fun N β tmps => ⟨_, rfl, ⟨rfl, none, 0, rfl⟩, rfl, trivial⟩, ?_⟩
    refine G.runE tm 100 ?_
    exact G.retG Try.func57 Try.results57 (.tuple #[.slice none 0 0, .int .i64 10]) (by kernel_rfl) rfl fun w' hg => ⟨_, _, _, rfl, hg, fun e => by simp at e, fun h2 => by simp at h2, _, _, _, rfl⟩
end w
end Go.Proofs.Ytkjahaoobdbffaa

/- The codec as a reader of what it has written: numbers. -/
namespace Go.Proofs.Ytkjahaoobdbffaa
open Go Go.RowKit
attribute [local irreducible] G GD GDop

theorem or_byte (x b : Nat) (hb : b < 256) (hx : 256 * x + b < 2 ^ 63) : IntKind.i64.wrap ((BitVec.ofInt 64 ((256 * x : Nat) : Int) ||| BitVec.ofInt 64 (b : Int)).toNat : Int) = ((256 * x + b : Nat) : Int) := by
  have h1 : (BitVec.ofInt 64 ((256 * x : Nat) : Int)).toNat = 256 * x := by rw [BitVec.toNat_ofInt]; omega
  have h2 : (BitVec.ofInt 64 ((b : Nat) : Int)).toNat = b := by rw [BitVec.toNat_ofInt]; omega
  rw [BitVec.toNat_or, h1, h2]
  have h3 : 256 * x ||| b = 256 * x + b := by
    have := Nat.shiftLeft_add_eq_or_of_lt (b := b) (i := 8) (by omega) x
    rw [Nat.shiftLeft_eq] at this
    rw [show 256 * x = x * 2 ^ 8 by omega]
    exact this.symm
  rw [h3, IntWalk.i64_in _ (by omega)]

theorem run_or {T : TypeId} (o1 o2 : Operand) (x b : Nat) (hb : b < 256) (hx : 256 * x + b < 2 ^ 63) (w : World) :
    (do eqGuard .or T o1 o2 (.int .i64 ((256 * x : Nat) : Int)) (.int .i64 (b : Int)); binOp .or T (.int .i64 ((256 * x : Nat) : Int)) (.int .i64 (b : Int))).run Try.prog w = .ok (.int .i64 ((256 * x + b : Nat) : Int)) w := by
  have := or_byte x b hb hx
  simp only [binOp, Sem.run_bind, run_eqGuard_int, Result.andThen_ok, Op.intBits, ne_eq, not_true_eq_false, if_false, Sem.run_pure]
  exact congrArg (fun z => Result.ok (Value.int .i64 z) w) this

theorem run_shl8 {T : TypeId} (o1 o2 : Operand) (x : Nat) (hx : 256 * x < 2 ^ 63) (w : World) :
    (do eqGuard .shl T o1 o2 (.int .i64 (x : Int)) (.int .u64 8); binOp .shl T (.int .i64 (x : Int)) (.int .u64 8)).run Try.prog w = .ok (.int .i64 ((256 * x : Nat) : Int)) w := by
  have : IntKind.i64.wrap ((x : Int) * 2 ^ min 8 IntKind.i64.bits) = 256 * (x : Int) := by
    rw [show min 8 IntKind.i64.bits = 8 from rfl, IntWalk.i64_in _ (by omega)]; omega
  simp [run_eqGuard_int, binOp, Op.shift, this]

/-- Numbers that are read as they were written. -/
def numOk (n : Int) : Prop := -1 ≤ n ∧ n ≤ 2 ^ 47

theorem byteV_ok {n : Int} (hn : numOk n) {j : Nat} (_hj : j < 6) : byteV n j = .int .u8 (((n + 1).toNat / 2 ^ (40 - 8 * j) % 256 : Nat) : Int) := by
  obtain ⟨h1, h2⟩ := hn
  unfold byteV
  rw [IntWalk.i64_in _ (by omega)]
  obtain ⟨N, hN⟩ : ∃ N : Nat, n + 1 = N := ⟨(n + 1).toNat, by omega⟩
  rw [hN, Int.toNat_natCast, IntKind.wrap_u8]
  have e2 : ((N : Int) / 2 ^ (40 - 8 * j)) = ((N / 2 ^ (40 - 8 * j) : Nat) : Int) := by simp
  rw [e2]
  generalize N / 2 ^ (40 - 8 * j) = M
  congr 1

theorem val_step (N : Nat) {j : Nat} (hj : j < 6) : 256 * (N / 2 ^ (48 - 8 * j)) + N / 2 ^ (40 - 8 * j) % 256 = N / 2 ^ (48 - 8 * (j + 1)) := by
  have e : 2 ^ (48 - 8 * j) = 2 ^ (40 - 8 * j) * 256 := by rw [show (256 : Nat) = 2 ^ 8 by rfl, ← Nat.pow_add]; congr 1; omega
  rw [e, ← Nat.div_div_eq_div_mul, show 48 - 8 * (j + 1) = 40 - 8 * j by omega]
  omega

def rdB (dv : Value) (n pos : Nat) : BoxB := .lit 127 [.sl dv n, .int .i64 pos, .bool false, .bool false]
def rdM (b tb : Nat) (T : TypeId) (dv : Value) (n pos : Nat) (arr : Array Value) : Mem := ⟨[(b, rdB dv n pos), (tb, .obj (.cells arr T (0, 0)))], []⟩
def putAll (arr : Array Value) (ps : List (Nat × Int)) : Array Value := ps.foldl (fun a p => putCell a p.1 (.int .i64 p.2)) arr

theorem putAll_snoc {arr : Array Value} {ps : List (Nat × Int)} {i : Nat} {p : Nat × Int} (h : ps[i]? = some p) : putAll arr (ps.take (i + 1)) = putCell (putAll arr (ps.take i)) p.1 (.int .i64 p.2) := by
  rw [List.take_add_one, h]; simp [putAll]

/-- A pointer into the target. -/
def PtrToR (tb : Nat) (cs : List Value) (p : Nat × Int) : Prop := cs = [.pointer (some ⟨tb, p.1, none⟩)]

/-- A part of a slice that nobody writes. -/
theorem SlR.cut {α : Type} {P : Program} {T E : TypeId} {h : GH} {sz : Nat} {R : List Value → α → Prop} {v : Value} {l : List α} (hs : SlR h sz R v l) (hu : P.underlying T = some (.slice E)) (hz : sizeP P E = some sz) {lo hi : Nat} (h1 : lo ≤ hi) (h2 : hi ≤ l.length) :
    ∃ v', SlR h sz R v' ((l.drop lo).take (hi - lo)) ∧ ∀ w, (Instr.sliceAt T v (some (.int .i64 lo)) (some (.int .i64 hi)) none).run P w = .ok v' w := by
  obtain ⟨ao, cap, rfl, hc, hm, h4⟩ := hs
  have hlen : ((l.drop lo).take (hi - lo)).length = hi - lo := by simp; omega
  refine ⟨.slice (if cap = lo then ao else ao.map (·.add (lo * sz))) (hi - lo) (cap - lo), ⟨_, _, by rw [hlen], by rw [hlen]; omega, by rw [hlen]; omega, ?_⟩, fun w => ?_⟩
  · by_cases he : hi = lo
    · left; subst he; simp
    · right
      have hcl : ¬ cap = lo := by omega
      rcases h4 with rfl | ⟨b, off, arr, T', fr, rfl, e2, e3, e4⟩
      · simp at h2; omega
      · refine ⟨b, off + lo * sz, arr, T', fr, by rw [if_neg hcl]; simp [Addr.add_lit], e2, ?_, fun i x hx => ?_⟩
        · rw [hlen]
          have : (lo + (hi - lo)) * sz ≤ l.length * sz := Nat.mul_le_mul_right _ (by omega)
          rw [Nat.add_mul] at this; omega
        · have hi' : i < hi - lo := by rw [← hlen]; exact (List.getElem?_eq_some_iff.1 hx).1
          rw [List.getElem?_take, if_pos hi', List.getElem?_drop] at hx
          have := e4 (lo + i) x hx
          rw [Nat.add_mul] at this
          rw [show off + lo * sz + i * sz = off + (lo * sz + i * sz) by omega]; exact this
  · have hb1 : (0 : Int) ≤ (hi : Int) ∧ (hi : Int) ≤ (cap : Int) := ⟨by omega, by omega⟩
    have hb2 : (0 : Int) ≤ (lo : Int) ∧ (lo : Int) ≤ (hi : Int) := ⟨by omega, by omega⟩
    have hcap : hi ≤ cap := by omega
    simp [Instr.sliceAt, run_underlying hu, Instr.slice, Instr.sliceBounds, Instr.sliceBound, asIntOf, hcap, h1, run_sizeP hz]

theorem z5 : sizeP Try.prog 5 = some 1 := by kernel_rfl
theorem u5 : ∃ d, Try.prog.underlying 5 = some d ∧ isAggD d = false := ⟨_, Try.underlying5, rfl⟩

/-- The bytes that come next. -/
theorem next_bytes {xs : List Value} {pos i : Nat} {ps : List (Nat × Int)} {rest : List Value} (hx : xs.drop pos = (ps.flatMap fun p => numV p.2) ++ rest) {p : Nat × Int} (hp : ps[i]? = some p) :
    (xs.drop (pos + 6 * i)).take 6 = numV p.2 ∧ pos + 6 * i + 6 ≤ xs.length := by
  have hlen : ∀ (l : List (Nat × Int)), (l.flatMap fun p => numV p.2).length = 6 * l.length := by
    intro l; induction l with
    | nil => rfl
    | cons a l ih => simp [ih, numV_len]; omega
  have hi := (List.getElem?_eq_some_iff.1 hp).1
  have h1 : ps = ps.take i ++ p :: ps.drop (i + 1) := by
    have := List.take_append_drop i ps
    rw [List.drop_eq_getElem_cons hi] at this
    obtain ⟨_, rfl⟩ := List.getElem?_eq_some_iff.1 hp
    exact this.symm
  have h2 : xs.drop (pos + 6 * i) = numV p.2 ++ (((ps.drop (i + 1)).flatMap fun p => numV p.2) ++ rest) := by
    rw [← List.drop_drop, hx]
    conv => lhs; rw [h1]
    rw [List.flatMap_append, List.flatMap_cons, List.append_assoc, List.append_assoc]
    exact List.drop_left' (by rw [hlen, List.length_take]; omega)
  constructor
  · rw [h2]; exact List.take_left' (numV_len _)
  · have := congrArg List.length h2
    rw [List.length_drop, List.length_append, numV_len] at this
    omega

section r
variable {h : GH} {w : World}

set_option maxHeartbeats 2000000 in
theorem f118r_ok {b tb : Nat} {T : TypeId} {dv vs : Value} {xs rest : List Value} {pos : Nat} {arr : Array Value} {ps : List (Nat × Int)} (hd : BytesR h dv xs) (hl : SlR h 1 (PtrToR tb) vs ps) (hoff : ∀ p ∈ ps, p.1 < arr.size ∧ numOk p.2)
    (hx : xs.drop pos = (ps.flatMap fun p => numV p.2) ++ rest) (hm : MemOk h w (rdM b tb T dv xs.length pos arr)) (hs : Sub h w) :
    Calls Try.prog 118 #[.pointer (some ⟨b, 0, none⟩), vs] w fun e w' => e = .returned (.tuple #[]) ∧ Mend h w (rdM b tb T dv xs.length pos arr) h w' (rdM b tb T dv xs.length (pos + 6 * ps.length) (putAll arr ps)) := by
  have hlen := hl.len
  have hdl := SlR.len hd
  refine Calls.enterM (rdM b tb T dv xs.length pos arr) [.atom (.ptr 0 0), .atom (.sl vs ps.length)] Try.func118 (c := bodyOf Try.f118) (by kernel_rfl) Try.ntmps118 (by kernel_rfl) hm ⟨⟨rfl, Nat.zero_lt_two⟩, hl.sv _ _, trivial⟩ (by simp) hs ?_
  refine G.runE tm 100 ?_
  refine G.loop (α := Nat × Array Value × Nat)
    (fun x => ⟨[(0, .one (.atom (.ptr 0 0))), (10, .one (.atom (.sl vs ps.length))), (11, .one (.atom (.int .i64 ps.length))), (12, .one (.atom (.int .i64 x.1)))],
      [(0, ⟨some b, rdB dv xs.length x.2.2⟩), (1, ⟨some tb, .obj (.cells x.2.1 T (0, 0))⟩)], 2, []⟩)
    (fun x g => g = h ∧ x.1 ≤ ps.length ∧ x.2.1 = putAll arr (ps.take x.1) ∧ x.2.1.size = arr.size ∧ x.2.2 = pos + 6 * x.1) (fun x => ps.length - x.1) (0, arr, pos) [0, 10, 11, 12] [0, 1] 2 [] (by kernel_rfl) (by kernel_rfl) (by kernel_rfl) ⟨rfl, Nat.zero_le _, by simp [putAll], rfl, rfl⟩ ?_
  rintro ⟨i, arr', q⟩ g ⟨rfl, hi, harr, hsz, hq⟩ IH
  simp only at hi harr hsz hq
  refine G.runE tm 100 ?_
  refine G.cond (decide ((i : Int) < (ps.length : Int))) (by kernel_rfl) (fun hc => ?_) (fun hc => ?_)
  · have hlt : i < ps.length := by simpa using hc
    obtain ⟨⟨o, n⟩, ho⟩ := get_of_lt hlt
    obtain ⟨hof, hn⟩ := hoff _ (List.mem_of_getElem? ho)
    obtain ⟨hcutE, hq6⟩ := next_bytes hx ho
    rw [← hq] at hcutE hq6
    simp only at hof hn hcutE
    refine G.runE tm 100 ?_
    refine G.idx (d1 := some 14) (g := none) (T := 185) (E := 171) hl Try.underlying185 z171 hlt (by kernel_rfl) (by kernel_rfl) ?_
    refine G.el1 (d1 := some 15) (g := none) (E := 171) hl u171 ho (by kernel_rfl) (by kernel_rfl) fun p hp => ?_
    obtain rfl : p = .pointer (some ⟨tb, o, none⟩) := by simpa [PtrToR] using hp
    refine ⟨.atom (.raw (.pointer (some ⟨tb, o, none⟩))), fun _ _ => ⟨rfl, rfl⟩, ?_⟩
    refine G.toPtr 15 1 (b := tb) (off := o) (x := .obj (.cells arr' T (0, 0))) (by kernel_rfl) (by kernel_rfl) ?_
    refine G.runE tm 100 ?_
    refine G.condF (b := false) (by kernel_rfl) rfl ?_
    refine G.runE tm 100 ?_
    refine G.draw [1] tm (by kernel_rfl) (by kernel_rfl) ?_
    refine GD.run (by kernel_rfl) 50 ?_
    refine GD.two 9 14 (by kernel_rfl) (GDop.effG (by kernel_rfl) (GD.run (by kernel_rfl) 50 (GD.one 14 (by kernel_rfl) (GDop.effG (by kernel_rfl) ?_))))
      (GDop.effG (by kernel_rfl) (GD.run (by kernel_rfl) 50 (GD.one 9 (by kernel_rfl) (GDop.effG (by kernel_rfl) ?_))))
    all_goals
      refine GD.run (by kernel_rfl) 50 ?_
      refine GD.fin (by kernel_rfl) ?_
      refine G.runE tm 100 ?_
      have hb : decide (IntKind.i64.wrap ((xs.length : Int) - (q : Int)) < 6) = false := by rw [IntWalk.i64_in _ (by omega)]; simp; omega
      refine G.condF (b := decide (IntKind.i64.wrap ((xs.length : Int) - (q : Int)) < 6)) (by kernel_rfl) hb ?_
      refine G.rebox 0 (b := ⟨some b, .lit 127 [.sl dv xs.length, .int .i64 q, .bool false, .bool (decide (IntKind.i64.wrap ((xs.length : Int) - (q : Int)) < 6))]⟩) (x := rdB dv xs.length q) (by kernel_rfl)
        (fun β w hh => by rw [hb] at hh; exact hh) ?_
      have hw6 : IntKind.i64.wrap ((q : Int) + 6) = ((q + 6 : Nat) : Int) := by rw [IntWalk.i64_in _ (by omega)]; rfl
      obtain ⟨cv, hcut, hrun⟩ := SlR.cut (P := Try.prog) (T := 40) (E := 5) hd Try.underlying40 z5 (lo := q) (hi := q + 6) (by omega) hq6
      rw [Nat.add_sub_cancel_left, hcutE] at hcut
      refine G.runE tm 100 ?_
      refine G.draw [0, 1] tm (by kernel_rfl) (by kernel_rfl) ?_
      refine GD.run (by kernel_rfl) 50 ?_
      refine GD.sem 13 (m := valS (Instr.sliceAt 40 dv (some (.int .i64 (q : Int))) (some (.int .i64 (IntKind.i64.wrap ((q : Int) + 6)))) none)) (dst := some 77) (g := none) (by kernel_rfl) (by kernel_rfl) cv (.atom (.sl cv 6)) (fun N β => by have := hcut.sv N β; rwa [numV_len] at this) (says_of fun w _ => run_valS (by rw [hw6]; exact hrun w)) ?_
      refine GD.run (by kernel_rfl) 50 ?_
      refine GD.fin (by kernel_rfl) ?_
      refine G.runE tm 100 ?_
      refine G.reint (k := .i64) (a := 0) (b := (((n + 1).toNat / 2 ^ (48 - 8 * 0) : Nat) : Int)) 7 (by kernel_rfl) (by
        have : (n + 1).toNat / 2 ^ (48 - 8 * 0) = 0 := Nat.div_eq_of_lt (by have := hn.1; have := hn.2; omega)
        rw [this]; rfl) ?_
      refine G.loop (α := Nat) (fun j => ⟨[(0, .one (.atom (.ptr 0 0))), (5, .one (.atom (.ptr 1 o))), (7, .one (.atom (.int .i64 ((n + 1).toNat / 2 ^ (48 - 8 * j) : Nat)))), (10, .one (.atom (.sl vs ps.length))), (11, .one (.atom (.int .i64 ps.length))), (12, .one (.atom (.int .i64 i))),
          (77, .one (.atom (.sl cv 6))), (78, .one (.atom (.int .i64 6))), (79, .one (.atom (.int .i64 j)))],
          [(0, ⟨some b, rdB dv xs.length q⟩), (1, ⟨some tb, .obj (.cells arr' T (0, 0))⟩)], 2, []⟩)
        (fun j g' => g' = g ∧ j ≤ 6) (fun j => 6 - j) 0 [0, 5, 7, 10, 11, 12, 77, 78, 79] [0, 1] 2 [] (by kernel_rfl) (by kernel_rfl) (by kernel_rfl) ⟨rfl, Nat.zero_le _⟩ ?_
      rintro j g' ⟨rfl, hj⟩ IH2
      refine G.runE tm 100 ?_
      refine G.cond (decide ((j : Int) < 6)) (by kernel_rfl) (fun hc2 => ?_) (fun hc2 => ?_)
      · have hj6 : j < 6 := by simp at hc2; omega
        have hN : (n + 1).toNat ≤ 2 ^ 47 + 1 := by have := hn.1; have := hn.2; omega
        have hv := val_step (n + 1).toNat hj6
        have hvl : (n + 1).toNat / 2 ^ (48 - 8 * (j + 1)) ≤ 2 ^ 47 + 1 := Nat.le_trans (Nat.div_le_self _ _) hN
        have hb256 : (n + 1).toNat / 2 ^ (40 - 8 * j) % 256 < 256 := Nat.mod_lt _ (by decide)
        have hbx : (numV n)[j]? = some (.int .u8 (((n + 1).toNat / 2 ^ (40 - 8 * j) % 256 : Nat) : Int)) := by rw [← byteV_ok hn hj6]; simp [numV, hj6]
        generalize (n + 1).toNat / 2 ^ (40 - 8 * j) % 256 = bb at hv hb256 hbx
        generalize hxv : (n + 1).toNat / 2 ^ (48 - 8 * j) = xv at hv
        refine G.runE tm 100 ?_
        refine G.idx (d1 := some 81) (g := none) (T := 40) (E := 5) hcut Try.underlying40 z5 (i := j) (by rw [numV_len]; exact hj6) (by kernel_rfl) (by kernel_rfl) ?_
        refine G.el1 (d1 := some 82) (g := none) (E := 5) hcut u5 hbx (by kernel_rfl) (by kernel_rfl) fun u hu => ?_
        obtain rfl : u = .int .u8 (bb : Int) := by simpa [CellR] using hu
        refine ⟨.atom (.int .u8 (bb : Int)), fun _ _ => rfl, ?_⟩
        refine G.runE tm 100 ?_
        refine G.sem (m := valS (do eqGuard .shl 3 (.tmp 83) (.const (.int .u64 8)) (.int .i64 (xv : Int)) (.int .u64 8); binOp .shl 3 (.int .i64 (xv : Int)) (.int .u64 8))) (d := some 84) (g := none) (by kernel_rfl) (by kernel_rfl) (.int .i64 ((256 * xv : Nat) : Int)) (.atom (.int .i64 ((256 * xv : Nat) : Int))) (fun _ _ => rfl)
          (says_of fun w _ => run_valS (run_shl8 _ _ _ (by omega) w)) ?_
        refine G.runE tm 100 ?_
        refine G.reint (k := .i64) (a := IntKind.i64.wrap (bb : Int)) (b := (bb : Int)) 86 (by kernel_rfl) (IntWalk.i64_in _ (by omega)) ?_
        refine G.sem (m := valS (do eqGuard .or 3 (.tmp 84) (.tmp 86) (.int .i64 ((256 * xv : Nat) : Int)) (.int .i64 (bb : Int)); binOp .or 3 (.int .i64 ((256 * xv : Nat) : Int)) (.int .i64 (bb : Int)))) (d := some 87) (g := none) (by kernel_rfl) (by kernel_rfl) (.int .i64 ((256 * xv + bb : Nat) : Int)) (.atom (.int .i64 ((256 * xv + bb : Nat) : Int))) (fun _ _ => rfl)
          (says_of fun w _ => run_valS (run_or _ _ _ _ hb256 (by omega) w)) ?_
        refine G.runE tm 100 ?_
        refine G.reint (k := .i64) (a := IntKind.i64.wrap ((j : Int) + 1)) (b := ((j + 1 : Nat) : Int)) 79 (by kernel_rfl) (by rw [IntWalk.i64_in _ (by omega)]; rfl) ?_
        rw [hv]
        exact G.back (by kernel_rfl) [0, 5, 7, 10, 11, 12, 77, 78, 79] [0, 1] 2 [] (by kernel_rfl) (by kernel_rfl) (IH2 (j + 1) _ ⟨rfl, hj6⟩ (by omega))
      · obtain rfl : j = 6 := by simp at hc2; omega
        refine G.runE tm 100 ?_
        refine G.reint (k := .i64) (a := IntKind.i64.wrap ((((n + 1).toNat / 2 ^ (48 - 8 * 6) : Nat) : Int) - 1)) (b := n) 92 (by kernel_rfl) (by
          rw [show (n + 1).toNat / 2 ^ (48 - 8 * 6) = (n + 1).toNat by simp]
          have := hn.1; have := hn.2
          rw [IntWalk.i64_in _ (by omega)]; omega) ?_
        refine G.reint (k := .i64) (a := IntKind.i64.wrap ((q : Int) + 6)) (b := ((q + 6 : Nat) : Int)) 97 (by kernel_rfl) hw6 ?_
        refine G.storeObj (T := 3) (k := 1) (off := o) (v := .int .i64 n) (by kernel_rfl) (bi := some tb) (arr := arr') (T' := T) (by kernel_rfl) (by rw [hsz]; exact hof) rfl z3 ?_
        refine G.runE tm 100 ?_
        refine G.reint (k := .i64) (a := IntKind.i64.wrap ((i : Int) + 1)) (b := ((i + 1 : Nat) : Int)) 12 (by kernel_rfl) (wrap_succ hlt hlen) ?_
        exact G.back (by kernel_rfl) [0, 10, 11, 12] [0, 1] 2 [] (by kernel_rfl) (by kernel_rfl) (IH (i + 1, putCell arr' o (.int .i64 n), q + 6) _ ⟨rfl, hlt, by rw [putAll_snoc ho, ← harr], by rw [putCell_size (by rw [hsz]; exact hof)]; exact hsz, by simp only; omega⟩ (by simp only; omega))
  · obtain rfl : i = ps.length := by simp at hc; omega
    rw [List.take_length] at harr
    subst harr hq
    refine G.runE tm 100 ?_
    exact G.retM (rdM b tb T dv xs.length pos arr) Try.func118 Try.results118 (.tuple #[]) (by kernel_rfl) rfl (rdM b tb T dv xs.length (pos + 6 * ps.length) (putAll arr ps)) (nb := 2) (no := 0) (by kernel_rfl) (by kernel_rfl) rfl fun w' hg => ⟨rfl, hg⟩
end r
end Go.Proofs.Ytkjahaoobdbffaa

/- The codec as a reader of what it has written: counts, texts, rules. -/
namespace Go.Proofs.Ytkjahaoobdbffaa
open Go Go.RowKit
attribute [local irreducible] G GD GDop

def rdM1 (b : Nat) (dv : Value) (n pos : Nat) : Mem := ⟨[(b, rdB dv n pos)], []⟩

/-- What a call that reads numbers into a target leaves. -/
def Read (h : GH) (w : World) (b tb : Nat) (T : TypeId) (dv : Value) (n pos pos' : Nat) (arr arr' : Array Value) (r : Value) (e : Ending) (w' : World) : Prop :=
  e = .returned r ∧ Mend h w (rdM b tb T dv n pos arr) h w' (rdM b tb T dv n pos' arr')

theorem G.callRd {C : Ctx} {h : GH} {c : Cfg} {f : FuncId} {svs : List SV1} {d : Option Nat} (kc kt : Nat) (ro : List Nat) (hc : callView c = some ⟨f, svs, d, none⟩) (he : enters C.P f = true) (hd : dstOk C.n d = true) {T : TypeId} {dv : Value} {n pos : Nat} {arr : Array Value}
    (hb : pickB c.s.boxes [kc, kt] = some [rdB dv n pos, .obj (.cells arr T (0, 0))]) (hh : handOk c.s [kc, kt] [] ro = true) {pos' : Nat} {arr' : Array Value} {r : Value}
    (hcall : ∀ β w tmps l, Sim C.hE C.w0 C.inc C.n c.s h β w tmps → SV1sOk c.s.nb β svs l → Sub (roH h β w ro) w → MemOk (roH h β w ro) w (rdM (β kc) (β kt) T dv n pos arr) → Calls C.P f l.toArray w (Read (roH h β w ro) w (β kc) (β kt) T dv n pos pos' arr arr' r))
    (hk : G C h (afterOp (withS c (putMem c.s [kc, kt] [] [rdB dv n pos', .obj (.cells arr' T (0, 0))] [])) (.ofV r))) : G C h c := by
  refine G.callM [kc, kt] [] ro hc he hd hb (os := []) rfl hh (fun h' r' bs' os' => h' = h ∧ r' = r ∧ bs' = [rdB dv n pos', .obj (.cells arr' T (0, 0))] ∧ os' = []) (fun β w tmps l hS hl hsub hmem => ?_) ?_
  · refine (hcall β w tmps l hS hl hsub hmem).mono ?_
    rintro e w' ⟨rfl, hm⟩
    simp only [handOk, Bool.and_eq_true] at hh
    exact ⟨r, [rdB dv n pos', .obj (.cells arr' T (0, 0))], [], _, rfl, rfl, rfl, hm, hS.hideRo hh.1.2, rfl, rfl, rfl⟩
  · rintro h' r' bs' os' ⟨rfl, rfl, rfl, rfl⟩ -
    exact ⟨_, fun N β tmps => SVofV_ok N β tmps _, hk⟩

theorem GDop.callRd {C : Ctx} {h0 h : GH} {ops : Array Oper} {k : List Item} {kl : List Nat} {c : DCfg} {i : Nat} {f : FuncId} {svs : List SV1} {d : Option Nat} (kc kt : Nat) (ro : List Nat) (hc : callAtD ops c i = some ⟨f, svs, d, none⟩) (he : enters C.P f = true) (hd : dstOk C.n d = true) {T : TypeId} {dv : Value} {n pos : Nat} {arr : Array Value}
    (hb : pickB c.s.boxes [kc, kt] = some [rdB dv n pos, .obj (.cells arr T (0, 0))]) (hh : handOk c.s [kc, kt] [] ro = true) (hlv : liveAll kl c.s = true) (hdk : disj kl [kc, kt] = true) {pos' : Nat} {arr' : Array Value} {r : Value}
    (hcall : ∀ β w tmps l, Sim C.hE C.w0 C.inc C.n c.s h β w tmps → SV1sOk c.s.nb β svs l → Sub (roH h β w ro) w → MemOk (roH h β w ro) w (rdM (β kc) (β kt) T dv n pos arr) → Calls C.P f l.toArray w (Read (roH h β w ro) w (β kc) (β kt) T dv n pos pos' arr arr' r))
    (hk : GD C h0 h ops k kl (afterN ops c i (putMem c.s [kc, kt] [] [rdB dv n pos', .obj (.cells arr' T (0, 0))] []) (.ofV r))) : GDop C h0 h ops k kl c i := by
  refine GDop.callM [kc, kt] [] ro hc he hd hb (os := []) rfl hh hlv hdk (fun h' r' bs' os' => h' = h ∧ r' = r ∧ bs' = [rdB dv n pos', .obj (.cells arr' T (0, 0))] ∧ os' = []) (fun β w tmps l hS hl hsub hmem => ?_) ?_
  · refine (hcall β w tmps l hS hl hsub hmem).mono ?_
    rintro e w' ⟨rfl, hm⟩
    simp only [handOk, Bool.and_eq_true] at hh
    exact ⟨r, [rdB dv n pos', .obj (.cells arr' T (0, 0))], [], _, rfl, rfl, rfl, hm, hS.hideRo hh.1.2, rfl, rfl, rfl⟩
  · rintro h' r' bs' os' ⟨rfl, rfl, rfl, rfl⟩ -
    exact ⟨_, fun N β tmps => SVofV_ok N β tmps _, hk⟩

def toPtrs (kt : Nat) (ps : List (Nat × Int)) : List Cell := ps.map fun p => .ptr kt p.1

theorem Sim.ptrsTo {hE : GH} {w0 : World} {inc : List Nat} {n : Nat} {s : S} {h : GH} {β : Nat → Nat} {w : World} {tmps : Array Value} (hS : Sim hE w0 inc n s h β w tmps) {ro : List Nat} {q kt : Nat} {bi : Option Nat} {T : TypeId} {ps : List (Nat × Int)} (hb : bx q s.boxes = some ⟨bi, .lit T (toPtrs kt ps)⟩) (hq : q ∈ ro) (hl : ps.length ≤ 1000) :
    SlR (roH h β w ro) 1 (PtrToR (β kt)) (.slice (some ⟨β q, 0, none⟩) ps.length ps.length) ps := by
  obtain ⟨arr, h1, h2⟩ := hS.box q _ hb
  have hlen := h2.length
  simp [toPtrs] at hlen
  refine ⟨_, _, rfl, Nat.le_refl _, by omega, .inr ⟨β q, 0, arr, T, (0, 0), rfl, by rw [roH_ro hq]; exact h1, by omega, fun i x hx => ?_⟩⟩
  have hx' : (toPtrs kt ps)[i]? = some (.ptr kt x.1) := by simp [toPtrs, hx]
  obtain ⟨u, h3, h4⟩ := h2.get hx'
  have : (arr.toList.drop (0 + i * 1)).take 1 = [u] := by
    rw [show 0 + i * 1 = i by omega]
    obtain ⟨hi, rfl⟩ := List.getElem?_eq_some_iff.1 h3
    rw [List.drop_eq_getElem_cons hi]; simp
  rw [this, PtrToR, h4.1]

/-! ### Bytes as a string -/

def bstr (ns : List Int) : ByteArray := ns.foldl (fun r n => r.push (UInt8.ofNat n.toNat)) ByteArray.empty

theorem bstr_cells (t : ByteArray) : bstr (t.data.toList.map fun b => (b.toNat : Int)) = t := by
  have h : ∀ (l : List UInt8) (a : ByteArray), (l.map fun b => ((b.toNat : Nat) : Int)).foldl (fun r n => r.push (UInt8.ofNat n.toNat)) a = ⟨a.data ++ l.toArray⟩ := by
    intro l
    induction l with
    | nil => intro a; cases a; simp
    | cons x l ih =>
      intro a
      simp only [List.map_cons, List.foldl_cons, Int.toNat_natCast, UInt8.ofNat_toNat]
      rw [ih]
      cases a with
      | mk d => simp [ByteArray.push]
  unfold bstr
  rw [h]
  cases t; simp [ByteArray.empty, ByteArray.emptyWithCapacity]; rfl

theorem BytesR.str {h : GH} {v : Value} {ns : List Int} (hs : BytesR h v (ns.map (Value.int .u8))) {w : World} (hw : Sub h w) : (convert 40 9 v).run Try.prog w = .ok (.string (bstr ns)) w := by
  obtain ⟨ao, cap, rfl, hc, hm, h4⟩ := hs
  rw [run_convert_bytes_string w 40 9 5 _ _ _ Try.underlying40 Try.underlying5 Try.underlying9]
  rcases h4 with h4 | ⟨b, off, arr, T', fr, rfl, e2, e3, e4⟩
  · have : ns = [] := by simpa using h4
    subst this
    cases ao with
    | none => simp [Conv.bytesToString, bstr]
    | some a =>
      refine run_bytesToString w a _ _ [] ?_
      have := run_loadCells_list (P := Try.prog) w a [] (fun j v hj => by simp at hj)
      simpa using this
  · refine run_bytesToString w ⟨b, off, none⟩ _ _ ns ?_
    have := run_loadCells_heap (P := Try.prog) (hw _ _ e2) (off := off) (m := (ns.map (Value.int .u8)).length) (by simpa using e3)
    rw [this]
    congr 2
    apply List.ext_getElem?
    intro i
    by_cases hi : i < ns.length
    · have hx : (ns.map (Value.int .u8))[i]? = some (.int .u8 ns[i]) := by simp [hi]
      have h5 := e4 i _ hx
      simp only [CellR, Nat.mul_one] at h5
      rw [hx, List.getElem?_take, if_pos (by simpa using hi), List.getElem?_drop]
      have h6 := congrArg (fun l => l[0]?) h5
      simp only [List.getElem?_take, List.getElem?_drop, List.getElem?_cons_zero] at h6
      simpa using h6
    · rw [List.getElem?_eq_none (by simp; omega), List.getElem?_eq_none (by simp; omega)]

section r
variable {h : GH} {w : World}

theorem f144r_ok {b : Nat} {dv : Value} {xs rest : List Value} {pos : Nat} {n n0 k : Int} (hd : BytesR h dv xs) (hn : 0 ≤ n ∧ n ≤ 2 ^ 47) (hk : 0 < k) (hx : xs.drop pos = numV n ++ rest) (hle : n * k ≤ rest.length) (hm : MemOk h w (rdM1 b dv xs.length pos)) (hs : Sub h w) :
    Calls Try.prog 144 #[.pointer (some ⟨b, 0, none⟩), .int .i64 n0, .int .i64 k] w fun e w' => e = .returned (.int .i64 n) ∧ Mend h w (rdM1 b dv xs.length pos) h w' (rdM1 b dv xs.length (pos + 6)) := by
  have hdl := SlR.len hd
  have hxl : xs.length = pos + 6 + rest.length := by
    have := congrArg List.length hx
    rw [List.length_drop, List.length_append, numV_len] at this; omega
  refine Calls.enterM (rdM1 b dv xs.length pos) [.atom (.ptr 0 0), .atom (.int .i64 n0), .atom (.int .i64 k)] Try.func144 (c := bodyOf Try.f144) (by kernel_rfl) Try.ntmps144 (by kernel_rfl) hm ⟨⟨rfl, Nat.zero_lt_one⟩, rfl, rfl, trivial⟩ (by simp) hs ?_
  refine G.runE tm 100 ?_
  refine G.rebox 1 (b := ⟨none, .lit 3 [.int .i64 n0]⟩) (x := .obj (.cells #[.int .i64 n0] 3 (0, 0))) (by kernel_rfl) (fun β w hh => BoxOk.toObj rfl hh) ?_
  refine G.callRd 0 1 [2] (f := 118) (svs := [.atom (.ptr 0 0), .atom (.bsl 2 0 1 1)]) (d := some 9) (by kernel_rfl) (by kernel_rfl) (by kernel_rfl) (T := 3) (dv := dv) (n := xs.length) (pos := pos) (arr := #[.int .i64 n0]) (by kernel_rfl) (by kernel_rfl)
    (pos' := pos + 6) (arr' := #[.int .i64 n]) (r := .tuple #[]) (fun β w tmps l hS hl hsub hmem => ?_) ?_
  · obtain ⟨a1, a2, rfl, ⟨rfl, -⟩, ⟨rfl, -⟩⟩ := args2 hl
    exact f118r_ok (ps := [(0, n)]) (rest := rest) (SlR.mono hd (hS.roLe [2]) fun _ _ h => h) (hS.ptrsTo (ro := [2]) (q := 2) (kt := 1) (bi := none) (T := 171) (ps := [(0, n)]) (by kernel_rfl) (by simp) (by simp))
      (by intro p hp; simp only [List.mem_singleton] at hp; subst hp; exact ⟨by simp, by have := hn.1; simp only; unfold numOk; omega⟩) (by simpa using hx) hmem hsub
  refine G.rebox 1 (b := ⟨none, .obj (.cells #[.int .i64 n] 3 (0, 0))⟩) (x := .lit 3 [.int .i64 n]) (by kernel_rfl) (fun β w hh => BoxOk.toLit (cs := [.int .i64 n]) (show CellsOk _ _ [.int .i64 n] [.int .i64 n] from ⟨rfl, trivial⟩) hh) ?_
  refine G.runE tm 100 ?_
  refine G.draw [0, 1] tm (by kernel_rfl) (by kernel_rfl) ?_
  refine GD.run (by kernel_rfl) 50 ?_
  refine GD.sem 27 (m := valS (do eqGuard .quo 3 (.tmp 35) (.tmp 36) (.int .i64 (IntKind.i64.wrap ((xs.length : Int) - ((pos + 6 : Nat) : Int)))) (.int .i64 k); binOp .quo 3 (.int .i64 (IntKind.i64.wrap ((xs.length : Int) - ((pos + 6 : Nat) : Int)))) (.int .i64 k))) (dst := some 37) (g := some (24, false)) (by kernel_rfl) (by kernel_rfl)
    (.int .i64 (IntKind.i64.wrap ((IntKind.i64.wrap ((xs.length : Int) - ((pos + 6 : Nat) : Int))).tdiv k))) (.atom (.int .i64 (IntKind.i64.wrap ((IntKind.i64.wrap ((xs.length : Int) - ((pos + 6 : Nat) : Int))).tdiv k)))) (fun _ _ => rfl)
    (says_of fun w _ => run_valS (run_quo _ _ _ _ hk w)) ?_
  refine GD.run (by kernel_rfl) 50 ?_
  refine GD.fin (by kernel_rfl) ?_
  refine G.runE tm 100 ?_
  refine G.condF (b := (decide (n < 0) || decide (n > IntKind.i64.wrap ((IntKind.i64.wrap ((xs.length : Int) - ((pos + 6 : Nat) : Int))).tdiv k)))) (by kernel_rfl) (by
    have h1 : (xs.length : Int) - ((pos + 6 : Nat) : Int) = rest.length := by omega
    rw [h1, IntWalk.i64_in (rest.length : Int) (by omega)]
    have h2 : (rest.length : Int).tdiv k = rest.length / k := Int.tdiv_eq_ediv_of_nonneg (by omega)
    have h3 : n ≤ (rest.length : Int) / k := Int.le_ediv_of_mul_le hk hle
    have h4 : (rest.length : Int) / k ≤ rest.length := Int.ediv_le_self _ (by omega)
    rw [h2, IntWalk.i64_in _ (by omega)]
    simp; omega) ?_
  refine G.runE tm 100 ?_
  exact G.retM (rdM1 b dv xs.length pos) Try.func144 Try.results144 (.int .i64 n) (by kernel_rfl) rfl (rdM1 b dv xs.length (pos + 6)) (nb := 1) (no := 0) (by kernel_rfl) (by kernel_rfl) rfl fun w' hg => ⟨rfl, hg⟩
end r
end Go.Proofs.Ytkjahaoobdbffaa

/- The codec as a reader of what it has written: texts, rules. -/
namespace Go.Proofs.Ytkjahaoobdbffaa
open Go Go.RowKit
attribute [local irreducible] G GD GDop

theorem G.callR1 {C : Ctx} {h : GH} {c : Cfg} {f : FuncId} {svs : List SV1} {d : Option Nat} (kc : Nat) (ro : List Nat) (hc : callView c = some ⟨f, svs, d, none⟩) (he : enters C.P f = true) (hd : dstOk C.n d = true) {dv : Value} {n pos : Nat}
    (hb : pickB c.s.boxes [kc] = some [rdB dv n pos]) (hh : handOk c.s [kc] [] ro = true) {pos' : Nat} {r : Value}
    (hcall : ∀ β w tmps l, Sim C.hE C.w0 C.inc C.n c.s h β w tmps → SV1sOk c.s.nb β svs l → Sub (roH h β w ro) w → MemOk (roH h β w ro) w (rdM1 (β kc) dv n pos) → Calls C.P f l.toArray w fun e w' => e = .returned r ∧ Mend (roH h β w ro) w (rdM1 (β kc) dv n pos) (roH h β w ro) w' (rdM1 (β kc) dv n pos'))
    (hk : G C h (afterOp (withS c (putMem c.s [kc] [] [rdB dv n pos'] [])) (.ofV r))) : G C h c := by
  refine G.callM [kc] [] ro hc he hd hb (os := []) rfl hh (fun h' r' bs' os' => h' = h ∧ r' = r ∧ bs' = [rdB dv n pos'] ∧ os' = []) (fun β w tmps l hS hl hsub hmem => ?_) ?_
  · refine (hcall β w tmps l hS hl hsub hmem).mono ?_
    rintro e w' ⟨rfl, hm⟩
    simp only [handOk, Bool.and_eq_true] at hh
    exact ⟨r, [rdB dv n pos'], [], _, rfl, rfl, rfl, hm, hS.hideRo hh.1.2, rfl, rfl, rfl⟩
  · rintro h' r' bs' os' ⟨rfl, rfl, rfl, rfl⟩ -
    exact ⟨_, fun N β tmps => SVofV_ok N β tmps _, hk⟩

theorem drop_step {xs a rest : List Value} {pos : Nat} (hx : xs.drop pos = a ++ rest) : xs.drop (pos + a.length) = rest ∧ (a = [] ∨ pos + a.length + rest.length = xs.length) := by
  constructor
  · rw [← List.drop_drop, hx]; exact List.drop_left
  · have := congrArg List.length hx
    rw [List.length_drop, List.length_append] at this
    cases a with
    | nil => exact .inl rfl
    | cons y a => right; simp only [List.length_cons] at this ⊢; omega

def ruC (a b c d : Int) (s : ByteArray) : List Cell := [.int .i64 a, .int .i64 b, .int .i64 c, .int .i64 d, .str s]
def ruM (b tb : Nat) (dv : Value) (n pos : Nat) (cs : List Cell) : Mem := ⟨[(b, rdB dv n pos), (tb, .lit 114 cs)], []⟩

section r
variable {h : GH} {w : World}

set_option maxHeartbeats 2000000 in
theorem f151r_ok {b tb : Nat} {dv : Value} {xs rest : List Value} {pos : Nat} {a1 a2 a3 a4 : Int} {s0 t : ByteArray} (hd : BytesR h dv xs) (ht : (t.size : Int) ≤ 2 ^ 40) (hx : xs.drop pos = textV t ++ rest) (hm : MemOk h w (ruM b tb dv xs.length pos (ruC a1 a2 a3 a4 s0))) (hs : Sub h w) :
    Calls Try.prog 151 #[.pointer (some ⟨b, 0, none⟩), .pointer (some ⟨tb, 4, none⟩)] w fun e w' => e = .returned (.tuple #[]) ∧ Mend h w (ruM b tb dv xs.length pos (ruC a1 a2 a3 a4 s0)) h w' (ruM b tb dv xs.length (pos + 6 + t.size) (ruC a1 a2 a3 a4 t)) := by
  have hdl := SlR.len hd
  rw [textV, List.append_assoc] at hx
  obtain ⟨hx2, hl2⟩ := drop_step hx
  rw [numV_len] at hx2 hl2
  have hl2 : pos + 6 + (t.size + rest.length) = xs.length := by
    rcases hl2 with h0 | h0
    · have := congrArg List.length h0; rw [numV_len] at this; simp at this
    · rw [List.length_append, Lib.strCells_length] at h0; omega
  refine Calls.enterM (ruM b tb dv xs.length pos (ruC a1 a2 a3 a4 s0)) [.atom (.ptr 0 0), .atom (.ptr 1 4)] Try.func151 (c := bodyOf Try.f151) (by kernel_rfl) Try.ntmps151 (by kernel_rfl) hm ⟨⟨rfl, Nat.zero_lt_two⟩, ⟨rfl, Nat.one_lt_two⟩, trivial⟩ (by simp) hs ?_
  refine G.runE tm 100 ?_
  refine G.callR1 0 [] (f := 144) (svs := [.atom (.ptr 0 0), .atom (.int .i64 s0.size), .atom (.int .i64 1)]) (d := some 10) (by kernel_rfl) (by kernel_rfl) (by kernel_rfl) (dv := dv) (n := xs.length) (pos := pos) (by kernel_rfl) (by kernel_rfl)
    (pos' := pos + 6) (r := .int .i64 t.size) (fun β w tmps l hS hl hsub hmem => ?_) ?_
  · obtain ⟨a1, a2, a3, rfl, ⟨rfl, -⟩, rfl, rfl⟩ := args3 hl
    exact f144r_ok (SlR.mono hd (hS.roLe []) fun _ _ h => h) (by omega) (by decide) hx (by rw [List.length_append, Lib.strCells_length]; omega) hmem hsub
  refine G.runE tm 100 ?_
  refine G.condF (b := false) (by kernel_rfl) rfl ?_
  refine G.runE tm 100 ?_
  refine G.condT (b := true) (by kernel_rfl) rfl ?_
  refine G.runE tm 100 ?_
  refine G.draw [] tm (by kernel_rfl) (by kernel_rfl) ?_
  have hw6 : IntKind.i64.wrap (((pos + 6 : Nat) : Int) + (t.size : Int)) = ((pos + 6 + t.size : Nat) : Int) := by rw [IntWalk.i64_in _ (by omega)]; omega
  obtain ⟨cv, hcut, hrun⟩ := SlR.cut (P := Try.prog) (T := 40) (E := 5) hd Try.underlying40 z5 (lo := pos + 6) (hi := pos + 6 + t.size) (by omega) (by omega)
  rw [Nat.add_sub_cancel_left, hx2, List.take_left' (Lib.strCells_length t)] at hcut
  have hstr : ∀ w, Sub h w → (convert 40 9 cv).run Try.prog w = .ok (.string t) w := fun w hw => by
    have := BytesR.str (ns := t.data.toList.map fun b => (b.toNat : Int)) (v := cv) (by rw [List.map_map]; exact hcut) hw
    rw [bstr_cells] at this; exact this
  refine GD.finS [⟨16, ⟨valS (Instr.sliceAt 40 dv (some (.int .i64 ((pos + 6 : Nat) : Int))) (some (.int .i64 (IntKind.i64.wrap (((pos + 6 : Nat) : Int) + (t.size : Int))))) none), some 47, none⟩, cv, .atom (.sl cv t.size)⟩,
    ⟨17, ⟨valS (convert 40 9 cv), some 48, none⟩, .string t, .atom (.str t)⟩] (by kernel_rfl)
    (semRows_cons ⟨rfl, fun N β => by have := hcut.sv N β; rwa [Lib.strCells_length] at this, fun w _ => run_valS (by rw [hw6]; exact hrun w)⟩ (semRows_cons ⟨rfl, fun N β => rfl, fun w hw => run_valS (hstr w hw)⟩ semRows_nil)) 10 24
    [] [0, 1] 2 [] ⟨[], [(0, ⟨some b, .lit 127 [.sl dv xs.length, .int .i64 (IntKind.i64.wrap (((pos + 6 : Nat) : Int) + (t.size : Int))), .bool false, .bool false]⟩), (1, ⟨some tb, .lit 114 (ruC a1 a2 a3 a4 t)⟩)], 2, []⟩ (by kernel_rfl) (by kernel_rfl) (by kernel_rfl) ?_
  rw [hw6]
  refine G.runE tm 100 ?_
  exact G.retM (ruM b tb dv xs.length pos (ruC a1 a2 a3 a4 s0)) Try.func151 Try.results151 (.tuple #[]) (by kernel_rfl) rfl (ruM b tb dv xs.length (pos + 6 + t.size) (ruC a1 a2 a3 a4 t)) (nb := 2) (no := 0) (by kernel_rfl) (by kernel_rfl) rfl fun w' hg => ⟨rfl, hg⟩

/-- A rule that is small enough to be read again. -/
def rulOk (r : Rul) : Prop := numOk r.id ∧ numOk r.pri ∧ numOk r.act ∧ numOk r.sco ∧ (r.pat.size : Int) ≤ 2 ^ 40

theorem f146r_ok {b tb : Nat} {dv : Value} {xs rest : List Value} {pos : Nat} {r : Rul} (hd : BytesR h dv xs) (hr : rulOk r) (hx : xs.drop pos = rulB r ++ rest) (hm : MemOk h w (ruM b tb dv xs.length pos (ruC 0 0 0 0 ⟨#[]⟩))) (hs : Sub h w) :
    Calls Try.prog 146 #[.pointer (some ⟨b, 0, none⟩), .pointer (some ⟨tb, 0, none⟩)] w fun e w' => e = .returned (.tuple #[]) ∧ Mend h w (ruM b tb dv xs.length pos (ruC 0 0 0 0 ⟨#[]⟩)) h w' (ruM b tb dv xs.length (pos + (rulB r).length) (rulC r)) := by
  rw [rulB, List.append_assoc] at hx
  have hx2 := (drop_step hx).1
  rw [flat_len] at hx2
  refine Calls.enterM (ruM b tb dv xs.length pos (ruC 0 0 0 0 ⟨#[]⟩)) [.atom (.ptr 0 0), .atom (.ptr 1 0)] Try.func146 (c := bodyOf Try.f146) (by kernel_rfl) Try.ntmps146 (by kernel_rfl) hm ⟨⟨rfl, Nat.zero_lt_two⟩, ⟨rfl, Nat.one_lt_two⟩, trivial⟩ (by simp) hs ?_
  refine G.runE tm 100 ?_
  refine G.rebox 1 (b := ⟨some tb, .lit 114 (ruC 0 0 0 0 ⟨#[]⟩)⟩) (x := .obj (.cells #[.int .i64 0, .int .i64 0, .int .i64 0, .int .i64 0, .string ⟨#[]⟩] 114 (0, 0))) (by kernel_rfl) (fun β w hh => BoxOk.toObj rfl hh) ?_
  refine G.draw [] tm (by kernel_rfl) (by kernel_rfl) ?_
  refine GD.run (by kernel_rfl) 50 ?_
  refine GD.one 14 (by kernel_rfl) (GDop.callRd 0 1 [2] (f := 118) (svs := [.atom (.ptr 0 0), .atom (.bsl 2 0 4 4)]) (d := some 18) (by kernel_rfl) (by kernel_rfl) (by kernel_rfl) (T := 114) (dv := dv) (n := xs.length) (pos := pos) (arr := #[.int .i64 0, .int .i64 0, .int .i64 0, .int .i64 0, .string ⟨#[]⟩]) (by kernel_rfl) (by kernel_rfl) (by kernel_rfl) (by kernel_rfl)
    (pos' := pos + 24) (arr' := #[.int .i64 r.id, .int .i64 r.pri, .int .i64 r.act, .int .i64 r.sco, .string ⟨#[]⟩]) (r := .tuple #[]) (fun β w tmps l hS hl hsub hmem => ?_) ?_)
  · obtain ⟨a1, a2, rfl, ⟨rfl, -⟩, ⟨rfl, -⟩⟩ := args2 hl
    exact f118r_ok (ps := [(0, r.id), (1, r.pri), (2, r.act), (3, r.sco)]) (rest := textV r.pat ++ rest) (SlR.mono hd (hS.roLe [2]) fun _ _ h => h) (hS.ptrsTo (ro := [2]) (q := 2) (kt := 1) (bi := none) (T := 171) (ps := [(0, r.id), (1, r.pri), (2, r.act), (3, r.sco)]) (by kernel_rfl) (by simp) (by simp))
      (by obtain ⟨h1, h2, h3, h4, -⟩ := hr; simp [h1, h2, h3, h4]) (by simpa using hx) hmem hsub
  refine GD.run (by kernel_rfl) 50 ?_
  refine GD.fin (by kernel_rfl) ?_
  refine G.rebox 1 (b := ⟨some tb, .obj (.cells #[.int .i64 r.id, .int .i64 r.pri, .int .i64 r.act, .int .i64 r.sco, .string ⟨#[]⟩] 114 (0, 0))⟩) (x := .lit 114 (ruC r.id r.pri r.act r.sco ⟨#[]⟩)) (by kernel_rfl) (fun β w hh => BoxOk.toLit (cs := ruC r.id r.pri r.act r.sco ⟨#[]⟩) (show CellsOk _ _ (ruC r.id r.pri r.act r.sco ⟨#[]⟩) [.int .i64 r.id, .int .i64 r.pri, .int .i64 r.act, .int .i64 r.sco, .string ⟨#[]⟩] from ⟨rfl, rfl, rfl, rfl, rfl, trivial⟩) hh) ?_
  refine G.runE tm 100 ?_
  refine G.callM [0, 1] [] [] (f := 151) (svs := [.atom (.ptr 0 0), .atom (.ptr 1 4)]) (d := some 23) (by kernel_rfl) (by kernel_rfl) (by kernel_rfl) (bs := [rdB dv xs.length (pos + 24), .lit 114 (ruC r.id r.pri r.act r.sco ⟨#[]⟩)]) (os := []) (by kernel_rfl) (by kernel_rfl) (by kernel_rfl)
    (fun h' v bs os => h' = h ∧ v = .tuple #[] ∧ bs = [rdB dv xs.length (pos + 24 + 6 + r.pat.size), .lit 114 (rulC r)] ∧ os = []) (fun β w tmps l hS hl hsub hmem => ?_) ?_
  · obtain ⟨a1, a2, rfl, ⟨rfl, -⟩, ⟨rfl, -⟩⟩ := args2 hl
    refine (f151r_ok (b := β 0) (tb := β 1) (pos := pos + 24) (t := r.pat) (rest := rest) (SlR.mono hd (hS.roLe []) fun _ _ h => h) hr.2.2.2.2 hx2 hmem hsub).mono ?_
    rintro e w' ⟨rfl, hmend⟩
    exact ⟨_, [rdB dv xs.length (pos + 24 + 6 + r.pat.size), .lit 114 (rulC r)], [], _, rfl, rfl, rfl, hmend, hS.hideRo rfl, rfl, rfl, rfl⟩
  rintro h' v bs os ⟨rfl, rfl, rfl, rfl⟩ -
  refine ⟨.ofV (.tuple #[]), fun N β tmps => SVofV_ok N β tmps _, ?_⟩
  refine G.runE tm 100 ?_
  exact G.retM (ruM b tb dv xs.length pos (ruC 0 0 0 0 ⟨#[]⟩)) Try.func146 Try.results146 (.tuple #[]) (by kernel_rfl) rfl (ruM b tb dv xs.length (pos + 24 + 6 + r.pat.size) (rulC r)) (nb := 2) (no := 0) (by kernel_rfl) (by kernel_rfl) rfl fun w' hg => ⟨rfl, by rw [rulB_len, show pos + (30 + r.pat.size) = pos + 24 + 6 + r.pat.size by omega]; exact hg⟩
end r
end Go.Proofs.Ytkjahaoobdbffaa

/- The codec as a reader of what it has written: lists of rules and of numbers. -/
namespace Go.Proofs.Ytkjahaoobdbffaa
open Go Go.RowKit
attribute [local irreducible] G GD GDop

theorem el29 : ElT Try.prog 29 114 5 48 := .of Try.underlying29 (by kernel_rfl) (by decide)
theorem el30 : ElT Try.prog 30 3 1 8 := .of Try.underlying30 (by kernel_rfl) (by decide)

/-- An entry under reading. -/
def eC (e : Ent) (p : Value) (np : Nat) (d : Value) (nd : Nat) : List Cell :=
  [.int .i64 e.view, .int .i64 e.client, .int .i64 e.request, .int .i64 e.dflt, .int .i64 e.closed, .int .i64 e.fuel, .int .i64 e.stack, .sl p np, .sl d nd]
def enM (b tb : Nat) (dv : Value) (n pos : Nat) (cs : List Cell) : Mem := ⟨[(b, rdB dv n pos), (tb, .lit 34 cs)], []⟩
abbrev nilS : Value := .slice none 0 0

theorem drop_flat {α : Type} {f : α → List Value} {l : List α} {xs rest : List Value} {pos i : Nat} {x : α} (hx : xs.drop pos = l.flatMap f ++ rest) (h : l[i]? = some x) :
    xs.drop (pos + ((l.take i).flatMap f).length) = f x ++ ((l.drop (i + 1)).flatMap f ++ rest) := by
  rw [← List.drop_drop, hx]
  have h1 : l = l.take i ++ x :: l.drop (i + 1) := by
    have := List.take_append_drop i l
    have hi := (List.getElem?_eq_some_iff.1 h).1
    rw [List.drop_eq_getElem_cons hi] at this
    obtain ⟨_, rfl⟩ := List.getElem?_eq_some_iff.1 h
    exact this.symm
  have h2 : l.flatMap f = (l.take i).flatMap f ++ (f x ++ (l.drop (i + 1)).flatMap f) := by
    generalize l.take i = A at h1 ⊢
    generalize l.drop (i + 1) = B at h1 ⊢
    subst h1
    rw [List.flatMap_append, List.flatMap_cons]
  rw [h2, List.append_assoc, List.append_assoc]
  exact List.drop_left

section r
variable {h : GH} {w : World}

set_option maxHeartbeats 1000000 in
theorem f145r_ok {b tb : Nat} {dv : Value} {xs rest : List Value} {pos : Nat} {e : Ent} {l : List Rul} (hd : BytesR h dv xs) (hr : ∀ r ∈ l, rulOk r) (hn : l.length ≤ 1000000) (hx : xs.drop pos = rulsB l ++ rest) (hm : MemOk h w (enM b tb dv xs.length pos (eC e nilS 0 nilS 0))) (hs : Sub h w) :
    Calls Try.prog 145 #[.pointer (some ⟨b, 0, none⟩), .pointer (some ⟨tb, 7, none⟩), .int .i64 30, .func (.func 146) #[.pointer (some ⟨b, 0, none⟩)] #[]] w fun en w' => ∃ p h', en = .returned (.tuple #[]) ∧ Mend h w (enM b tb dv xs.length pos (eC e nilS 0 nilS 0)) h' w' (enM b tb dv xs.length (pos + (rulsB l).length) (eC e p l.length nilS 0)) ∧ SlR h' 5 RulR p l := by
  rw [rulsB, List.append_assoc] at hx
  have hx2 := (drop_step hx).1
  rw [numV_len] at hx2
  have hfl : 30 * l.length ≤ (l.flatMap rulB).length := by
    clear hx hx2 hn hr
    induction l with
    | nil => simp
    | cons a l ih => simp only [List.flatMap_cons, List.length_append, List.length_cons, rulB_len]; omega
  refine Calls.enterM (enM b tb dv xs.length pos (eC e nilS 0 nilS 0)) [.atom (.ptr 0 0), .atom (.ptr 1 7), .atom (.int .i64 30), .atom (.clo 146 true 0 0)] Try.func145 (c := bodyOf Try.f145) (by kernel_rfl) Try.ntmps145 (by kernel_rfl) hm
    ⟨⟨rfl, Nat.zero_lt_two⟩, ⟨rfl, Nat.one_lt_two⟩, rfl, ⟨rfl, Nat.zero_lt_two⟩, trivial⟩ (by simp) hs ?_
  refine G.runE tm 100 ?_
  refine G.callR1 0 [] (f := 144) (svs := [.atom (.ptr 0 0), .atom (.int .i64 0), .atom (.int .i64 30)]) (d := some 19) (by kernel_rfl) (by kernel_rfl) (by kernel_rfl) (dv := dv) (n := xs.length) (pos := pos) (by kernel_rfl) (by kernel_rfl)
    (pos' := pos + 6) (r := .int .i64 l.length) (fun β w tmps l' hS hl hsub hmem => ?_) ?_
  · obtain ⟨a1, a2, a3, rfl, ⟨rfl, -⟩, rfl, rfl⟩ := args3 hl
    exact f144r_ok (SlR.mono hd (hS.roLe []) fun _ _ h => h) (by omega) (by decide) hx (by rw [List.length_append]; omega) hmem hsub
  refine G.runE tm 100 ?_
  refine G.condF (b := false) (by kernel_rfl) rfl ?_
  refine G.runE tm 100 ?_
  refine G.ownNil 0 114 5 ?_
  refine G.loop (α := Nat × Value × List Value × Nat)
    (fun x => ⟨[(0, .one (.atom (.ptr 0 0))), (1, .one (.atom (.ptr 1 7))), (3, .one (.atom (.clo 146 true 0 0))), (8, .one (.atom (.int .i64 l.length))), (11, .one (.atom (.int .i64 x.1)))],
      [(0, ⟨some b, rdB dv xs.length x.2.2.2⟩), (1, ⟨some tb, .lit 34 (eC e x.2.1 x.1 nilS 0)⟩)], 2, [(0, ⟨114, 5, x.2.1, x.1, x.2.2.1⟩)]⟩)
    (fun x g => g = h ∧ x.1 ≤ l.length ∧ ListR 5 RulR x.2.2.1 (l.take x.1) ∧ x.2.2.2 = pos + 6 + ((l.take x.1).flatMap rulB).length) (fun x => l.length - x.1) (0, nilS, [], pos + 6) [0, 1, 3, 8, 11] [0, 1] 2 [0] (by kernel_rfl) (by kernel_rfl) (by kernel_rfl)
      ⟨rfl, Nat.zero_le _, by simpa using ListR.nil, by simp⟩ ?_
  rintro ⟨i, u, ys, q⟩ g ⟨rfl, hi, hys, hq⟩ IH
  simp only at hi hys hq
  refine G.runE tm 100 ?_
  refine G.cond (decide ((i : Int) < (l.length : Int)) && !false) (by kernel_rfl) (fun hc => ?_) (fun hc => ?_)
  · have hlt : i < l.length := by simpa using hc
    obtain ⟨r, hri⟩ := get_of_lt hlt
    have hxr := drop_flat hx2 hri
    rw [← hq] at hxr
    refine G.runE tm 100 ?_
    refine G.callM [0, 2] [] [] (f := 146) (svs := [.atom (.ptr 0 0), .atom (.ptr 2 0)]) (d := some 48) (by kernel_rfl) (by kernel_rfl) (by kernel_rfl) (bs := [rdB dv xs.length q, .lit 114 (ruC 0 0 0 0 ⟨#[]⟩)]) (os := []) (by kernel_rfl) (by kernel_rfl) (by kernel_rfl)
      (fun h' v bs os => h' = g ∧ v = .tuple #[] ∧ bs = [rdB dv xs.length (q + (rulB r).length), .lit 114 (rulC r)] ∧ os = []) (fun β w tmps l' hS hl hsub hmem => ?_) ?_
    · obtain ⟨a1, a2, rfl, ⟨rfl, -⟩, ⟨rfl, -⟩⟩ := args2 hl
      refine (f146r_ok (b := β 0) (tb := β 2) (pos := q) (r := r) (SlR.mono hd (hS.roLe []) fun _ _ h => h) (hr r (List.mem_of_getElem? hri)) hxr hmem hsub).mono ?_
      rintro en w' ⟨rfl, hmend⟩
      exact ⟨_, [rdB dv xs.length (q + (rulB r).length), .lit 114 (rulC r)], [], _, rfl, rfl, rfl, hmend, hS.hideRo rfl, rfl, rfl, rfl⟩
    rintro h' v bs os ⟨rfl, rfl, rfl, rfl⟩ -
    refine ⟨.ofV (.tuple #[]), fun N β tmps => SVofV_ok N β tmps _, ?_⟩
    refine G.runE tm 100 ?_
    refine G.draw [2] tm (by kernel_rfl) (by kernel_rfl) ?_
    refine GD.autoN (by kernel_rfl) 10 2 (by kernel_rfl) (by kernel_rfl) ?_
    refine GD.one 6 (by kernel_rfl) (GDop.appLit (T := 29) (v := u) (m := i) (xs := ys) (kx := 3) (q := 1) (q' := 1) (d := some 55) el29 0 (by kernel_rfl) (by kernel_rfl) (by kernel_rfl) (bi := none) (e' := 114) (cs := rulC r) (by kernel_rfl)
      (news := (rulA r).toList) (by kernel_rfl) rfl (by omega) (by omega) fun u' _ => ?_)
    refine GD.run (by kernel_rfl) 50 ?_
    refine GD.fin (by kernel_rfl) ?_
    refine G.runE tm 100 ?_
    refine G.reint (k := .i64) (a := IntKind.i64.wrap ((i : Int) + 1)) (b := ((i + 1 : Nat) : Int)) 11 (by kernel_rfl) (by rw [IntWalk.i64_in _ (by omega)]; rfl) ?_
    refine G.back (by kernel_rfl) [0, 1, 3, 8, 11] [0, 1] 2 [0] (by kernel_rfl) (by kernel_rfl) (IH (i + 1, u', ys ++ (rulA r).toList, q + (rulB r).length) _ ⟨rfl, hlt, ?_, ?_⟩ (by simp only; omega))
    · simp only; rw [List.take_add_one, hri]; exact hys.snoc rfl rfl
    · simp only; rw [flat_snoc hri, List.length_append]; omega
  · obtain rfl : i = l.length := by simp at hc; omega
    rw [List.take_length] at hys hq
    refine G.runE tm 100 ?_
    refine G.freeze 0 (e := 114) (sz := 5) (v := u) (m := l.length) (xs := ys) (by kernel_rfl) fun h' hle hf _ => ?_
    have hv := SlR.of_freeze hf hys rfl (by omega)
    exact G.retM (enM b tb dv xs.length pos (eC e nilS 0 nilS 0)) Try.func145 Try.results145 (.tuple #[]) (by kernel_rfl) rfl (enM b tb dv xs.length q (eC e u l.length nilS 0)) (nb := 2) (no := 0) (by kernel_rfl) (by kernel_rfl) rfl
      fun w' hg => ⟨u, h', rfl, by rw [rulsB, List.length_append, numV_len, show pos + (6 + (l.flatMap rulB).length) = q by omega]; exact hg, hv⟩

def inM (b tb : Nat) (dv : Value) (n pos : Nat) (x : Int) : Mem := ⟨[(b, rdB dv n pos), (tb, .lit 3 [.int .i64 x])], []⟩

theorem f148r_ok {b cb ib : Nat} {dv : Value} {xs rest : List Value} {pos : Nat} {x : Int} {T' : TypeId} {fr' : Nat × Nat} (hd : BytesR h dv xs) (hn : numOk x) (hx : xs.drop pos = numV x ++ rest) (hc : h cb = some (.cells #[.pointer (some ⟨b, 0, none⟩)] T' fr')) (hm : MemOk h w (inM b ib dv xs.length pos 0)) (hs : Sub h w) :
    Calls Try.prog 148 #[.pointer (some ⟨ib, 0, none⟩), .pointer (some ⟨cb, 0, none⟩)] w fun e w' => e = .returned (.tuple #[]) ∧ Mend h w (inM b ib dv xs.length pos 0) h w' (inM b ib dv xs.length (pos + 6) x) := by
  refine Calls.enterM (inM b ib dv xs.length pos 0) [.atom (.ptr 1 0), .atom (.raw (.pointer (some ⟨cb, 0, none⟩)))] Try.func148 (c := bodyOf Try.f148) (by kernel_rfl) Try.ntmps148 (by kernel_rfl) hm ⟨⟨rfl, Nat.one_lt_two⟩, ⟨rfl, rfl⟩, trivial⟩ (by simp) hs ?_
  refine G.runE tm 100 ?_
  refine G.sem (m := valS (Instr.loadAt 125 (.pointer (some ⟨cb, 0, none⟩)))) (d := some 3) (g := none) (by kernel_rfl) (by kernel_rfl) (.pointer (some ⟨b, 0, none⟩)) (.atom (.raw (.pointer (some ⟨b, 0, none⟩)))) (fun _ _ => ⟨rfl, rfl⟩)
    (says_of fun w hw => run_valS (loadCell Try.underlying125 rfl hc rfl hw)) ?_
  refine G.toPtr 3 0 (b := b) (off := 0) (x := rdB dv xs.length pos) (by kernel_rfl) (by kernel_rfl) ?_
  refine G.runE tm 100 ?_
  refine G.rebox 1 (b := ⟨some ib, .lit 3 [.int .i64 0]⟩) (x := .obj (.cells #[.int .i64 0] 3 (0, 0))) (by kernel_rfl) (fun β w hh => BoxOk.toObj rfl hh) ?_
  refine G.callRd 0 1 [2] (f := 118) (svs := [.atom (.ptr 0 0), .atom (.bsl 2 0 1 1)]) (d := some 6) (by kernel_rfl) (by kernel_rfl) (by kernel_rfl) (T := 3) (dv := dv) (n := xs.length) (pos := pos) (arr := #[.int .i64 0]) (by kernel_rfl) (by kernel_rfl)
    (pos' := pos + 6) (arr' := #[.int .i64 x]) (r := .tuple #[]) (fun β w tmps l hS hl hsub hmem => ?_) ?_
  · obtain ⟨a1, a2, rfl, ⟨rfl, -⟩, ⟨rfl, -⟩⟩ := args2 hl
    exact f118r_ok (ps := [(0, x)]) (rest := rest) (SlR.mono hd (hS.roLe [2]) fun _ _ h => h) (hS.ptrsTo (ro := [2]) (q := 2) (kt := 1) (bi := none) (T := 171) (ps := [(0, x)]) (by kernel_rfl) (by simp) (by simp))
      (by intro p hp; simp only [List.mem_singleton] at hp; subst hp; exact ⟨by simp, hn⟩) (by simpa using hx) hmem hsub
  refine G.rebox 1 (b := ⟨some ib, .obj (.cells #[.int .i64 x] 3 (0, 0))⟩) (x := .lit 3 [.int .i64 x]) (by kernel_rfl) (fun β w hh => BoxOk.toLit (cs := [.int .i64 x]) (show CellsOk _ _ [.int .i64 x] [.int .i64 x] from ⟨rfl, trivial⟩) hh) ?_
  refine G.runE tm 100 ?_
  exact G.retM (inM b ib dv xs.length pos 0) Try.func148 Try.results148 (.tuple #[]) (by kernel_rfl) rfl (inM b ib dv xs.length (pos + 6) x) (nb := 2) (no := 0) (by kernel_rfl) (by kernel_rfl) rfl fun w' hg => ⟨rfl, hg⟩

set_option maxHeartbeats 1000000 in
theorem f147r_ok {b cb tb : Nat} {dv p : Value} {np : Nat} {xs rest : List Value} {pos : Nat} {e : Ent} {l : List Int} {T' : TypeId} {fr' : Nat × Nat} (hd : BytesR h dv xs) (hr : ∀ r ∈ l, numOk r) (hn : l.length ≤ 1000000) (hx : xs.drop pos = intsB l ++ rest) (hc : h cb = some (.cells #[.pointer (some ⟨b, 0, none⟩)] T' fr'))
    (hm : MemOk h w (enM b tb dv xs.length pos (eC e p np nilS 0))) (hs : Sub h w) :
    Calls Try.prog 147 #[.pointer (some ⟨b, 0, none⟩), .pointer (some ⟨tb, 8, none⟩), .int .i64 6, .func (.func 148) #[] #[.pointer (some ⟨cb, 0, none⟩)]] w fun en w' => ∃ d h', en = .returned (.tuple #[]) ∧ Mend h w (enM b tb dv xs.length pos (eC e p np nilS 0)) h' w' (enM b tb dv xs.length (pos + (intsB l).length) (eC e p np d l.length)) ∧ SlR h' 1 IntR d l := by
  rw [intsB, List.append_assoc] at hx
  have hx2 := (drop_step hx).1
  rw [numV_len] at hx2
  have hfl := flat_len l
  refine Calls.enterM (enM b tb dv xs.length pos (eC e p np nilS 0)) [.atom (.ptr 0 0), .atom (.ptr 1 8), .atom (.int .i64 6), .atom (.raw (.func (.func 148) #[] #[.pointer (some ⟨cb, 0, none⟩)]))] Try.func147 (c := bodyOf Try.f147) (by kernel_rfl) Try.ntmps147 (by kernel_rfl) hm
    ⟨⟨rfl, Nat.zero_lt_two⟩, ⟨rfl, Nat.one_lt_two⟩, rfl, ⟨rfl, rfl⟩, trivial⟩ (by simp) hs ?_
  refine G.runE tm 100 ?_
  refine G.callR1 0 [] (f := 144) (svs := [.atom (.ptr 0 0), .atom (.int .i64 0), .atom (.int .i64 6)]) (d := some 19) (by kernel_rfl) (by kernel_rfl) (by kernel_rfl) (dv := dv) (n := xs.length) (pos := pos) (by kernel_rfl) (by kernel_rfl)
    (pos' := pos + 6) (r := .int .i64 l.length) (fun β w tmps l' hS hl hsub hmem => ?_) ?_
  · obtain ⟨a1, a2, a3, rfl, ⟨rfl, -⟩, rfl, rfl⟩ := args3 hl
    exact f144r_ok (SlR.mono hd (hS.roLe []) fun _ _ h => h) (by omega) (by decide) hx (by rw [List.length_append]; omega) hmem hsub
  refine G.runE tm 100 ?_
  refine G.condF (b := false) (by kernel_rfl) rfl ?_
  refine G.runE tm 100 ?_
  refine G.ownNil 0 3 1 ?_
  refine G.loop (α := Nat × Value × List Value × Nat)
    (fun x => ⟨[(0, .one (.atom (.ptr 0 0))), (1, .one (.atom (.ptr 1 8))), (3, .one (.atom (.raw (.func (.func 148) #[] #[.pointer (some ⟨cb, 0, none⟩)])))), (8, .one (.atom (.int .i64 l.length))), (11, .one (.atom (.int .i64 x.1)))],
      [(0, ⟨some b, rdB dv xs.length x.2.2.2⟩), (1, ⟨some tb, .lit 34 (eC e p np x.2.1 x.1)⟩)], 2, [(0, ⟨3, 1, x.2.1, x.1, x.2.2.1⟩)]⟩)
    (fun x g => g = h ∧ x.1 ≤ l.length ∧ ListR 1 IntR x.2.2.1 (l.take x.1) ∧ x.2.2.2 = pos + 6 + ((l.take x.1).flatMap numV).length) (fun x => l.length - x.1) (0, nilS, [], pos + 6) [0, 1, 3, 8, 11] [0, 1] 2 [0] (by kernel_rfl) (by kernel_rfl) (by kernel_rfl)
      ⟨rfl, Nat.zero_le _, by simpa using ListR.nil, by simp⟩ ?_
  rintro ⟨i, u, ys, q⟩ g ⟨rfl, hi, hys, hq⟩ IH
  simp only at hi hys hq
  refine G.runE tm 100 ?_
  refine G.cond (decide ((i : Int) < (l.length : Int)) && !false) (by kernel_rfl) (fun hc1 => ?_) (fun hc1 => ?_)
  · have hlt : i < l.length := by simpa using hc1
    obtain ⟨r, hri⟩ := get_of_lt hlt
    have hxr := drop_flat hx2 hri
    rw [← hq] at hxr
    refine G.runE tm 100 ?_
    refine G.callM [0, 2] [] [] (f := 148) (svs := [.atom (.ptr 2 0), .atom (.raw (.pointer (some ⟨cb, 0, none⟩)))]) (d := some 48) (by kernel_rfl) (by kernel_rfl) (by kernel_rfl) (bs := [rdB dv xs.length q, .lit 3 [.int .i64 0]]) (os := []) (by kernel_rfl) (by kernel_rfl) (by kernel_rfl)
      (fun h' v bs os => h' = g ∧ v = .tuple #[] ∧ bs = [rdB dv xs.length (q + 6), .lit 3 [.int .i64 r]] ∧ os = []) (fun β w tmps l' hS hl hsub hmem => ?_) ?_
    · obtain ⟨a1, a2, rfl, ⟨rfl, -⟩, ⟨rfl, -⟩⟩ := args2 hl
      have hβ : β 0 = b := hS.key (x := rdB dv xs.length q) (by kernel_rfl)
      refine (f148r_ok (b := β 0) (ib := β 2) (pos := q) (x := r) (SlR.mono hd (hS.roLe []) fun _ _ h => h) (hr r (List.mem_of_getElem? hri)) hxr (by rw [hβ]; exact hS.roLe [] _ _ hc) hmem hsub).mono ?_
      rintro en w' ⟨rfl, hmend⟩
      exact ⟨_, [rdB dv xs.length (q + 6), .lit 3 [.int .i64 r]], [], _, rfl, rfl, rfl, hmend, hS.hideRo rfl, rfl, rfl, rfl⟩
    rintro h' v bs os ⟨rfl, rfl, rfl, rfl⟩ -
    refine ⟨.ofV (.tuple #[]), fun N β tmps => SVofV_ok N β tmps _, ?_⟩
    refine G.runE tm 100 ?_
    refine G.draw [2] tm (by kernel_rfl) (by kernel_rfl) ?_
    refine GD.autoN (by kernel_rfl) 10 2 (by kernel_rfl) (by kernel_rfl) ?_
    refine GD.one 6 (by kernel_rfl) (GDop.appLit (T := 30) (v := u) (m := i) (xs := ys) (kx := 3) (q := 1) (q' := 1) (d := some 55) el30 0 (by kernel_rfl) (by kernel_rfl) (by kernel_rfl) (bi := none) (e' := 3) (cs := [.int .i64 r]) (by kernel_rfl)
      (news := [.int .i64 r]) (by kernel_rfl) rfl (by omega) (by omega) fun u' _ => ?_)
    refine GD.run (by kernel_rfl) 50 ?_
    refine GD.fin (by kernel_rfl) ?_
    refine G.runE tm 100 ?_
    refine G.reint (k := .i64) (a := IntKind.i64.wrap ((i : Int) + 1)) (b := ((i + 1 : Nat) : Int)) 11 (by kernel_rfl) (by rw [IntWalk.i64_in _ (by omega)]; rfl) ?_
    refine G.back (by kernel_rfl) [0, 1, 3, 8, 11] [0, 1] 2 [0] (by kernel_rfl) (by kernel_rfl) (IH (i + 1, u', ys ++ [.int .i64 r], q + 6) _ ⟨rfl, hlt, ?_, ?_⟩ (by simp only; omega))
    · simp only; rw [List.take_add_one, hri]; exact hys.snoc rfl rfl
    · simp only; rw [flat_snoc hri, List.length_append, numV_len]; omega
  · obtain rfl : i = l.length := by simp at hc1; omega
    rw [List.take_length] at hys hq
    refine G.runE tm 100 ?_
    refine G.freeze 0 (e := 3) (sz := 1) (v := u) (m := l.length) (xs := ys) (by kernel_rfl) fun h' hle hf _ => ?_
    have hv := SlR.of_freeze hf hys rfl (by omega)
    exact G.retM (enM b tb dv xs.length pos (eC e p np nilS 0)) Try.func147 Try.results147 (.tuple #[]) (by kernel_rfl) rfl (enM b tb dv xs.length q (eC e p np u l.length)) (nb := 2) (no := 0) (by kernel_rfl) (by kernel_rfl) rfl
      fun w' hg => ⟨u, h', rfl, by rw [intsB, List.length_append, numV_len, show pos + (6 + (l.flatMap numV).length) = q by omega]; exact hg, hv⟩
end r
end Go.Proofs.Ytkjahaoobdbffaa
