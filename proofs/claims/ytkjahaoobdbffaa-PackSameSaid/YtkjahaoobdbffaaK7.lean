/- The codec as a writer: lists, entries, messages. -/
import Derived.Test.YtkjahaoobdbffaaK6
namespace Go.Proofs.Ytkjahaoobdbffaa
open Go Go.RowKit
attribute [local irreducible] G GD GDop

theorem flat_snoc {α : Type} {f : α → List Value} {l : List α} {i : Nat} {x : α} (h : l[i]? = some x) : (l.take (i + 1)).flatMap f = (l.take i).flatMap f ++ f x := by
  rw [List.take_add_one, h]; simp

theorem flat_take_le {α : Type} {f : α → List Value} {l : List α} {i : Nat} {x : α} (h : l[i]? = some x) : ((l.take i).flatMap f).length + (f x).length ≤ (l.flatMap f).length := by
  have h1 : l.flatMap f = (l.take (i + 1)).flatMap f ++ (l.drop (i + 1)).flatMap f := by rw [← List.flatMap_append, List.take_append_drop]
  rw [h1, flat_snoc h]
  simp only [List.length_append]; omega

theorem Sim.roCells {hE : GH} {w0 : World} {inc : List Nat} {n : Nat} {s : S} {h : GH} {β : Nat → Nat} {w : World} {tmps : Array Value} (hS : Sim hE w0 inc n s h β w tmps) {ro : List Nat} {k : Nat} {bi : Option Nat} {T : TypeId} {cs : List Cell} {vs : List Value} (hb : bx k s.boxes = some ⟨bi, .lit T cs⟩) (hk : k ∈ ro) (hv : cellVals cs = some vs) :
    roH h β w ro (β k) = some (.cells vs.toArray T (0, 0)) := by
  rw [roH_ro hk]
  obtain ⟨arr, h1, h2⟩ := hS.box k _ hb
  rw [h1, ← cellVals_ok hv h2]

theorem Sim.key {hE : GH} {w0 : World} {inc : List Nat} {n : Nat} {s : S} {h : GH} {β : Nat → Nat} {w : World} {tmps : Array Value} (hS : Sim hE w0 inc n s h β w tmps) {k b : Nat} {x : BoxB} (hb : bx k s.boxes = some ⟨some b, x⟩) : β k = b := (hS.fresh k _ hb).1

section w
variable {h : GH} {w : World}

theorem loadCell {E : TypeId} {d : TypeDesc} (hd : Try.prog.underlying E = some d) (hag : isAggD d = false) {pb off : Nat} {arr : Array Value} {T : TypeId} {fr : Nat × Nat} {u : Value} (hp : h pb = some (.cells arr T fr)) (ht : arr[off]? = some u) (hs : Sub h w) :
    (Instr.loadAt E (.pointer (some ⟨pb, off, none⟩))).run Try.prog w = .ok u w := by
  have : w.cell? ⟨pb, off, none⟩ = some u := by rw [cell_of_heap (hs _ _ hp)]; exact ht
  simp [Instr.loadAt, Instr.sureAddr, loadVar, run_isAggP hd, hag, this]

theorem f148_ok {b cb ib : Nat} {v : Value} {xs : List Value} {x : Int} {T T' : TypeId} {fr fr' : Nat × Nat} (hi : h ib = some (.cells #[.int .i64 x] T fr)) (hc : h cb = some (.cells #[.pointer (some ⟨b, 0, none⟩)] T' fr')) (hm : MemOk h w (codM b v xs)) (hs : Sub h w) (hn : xs.length + 6 ≤ 140737488351232) :
    Calls Try.prog 148 #[.pointer (some ⟨ib, 0, none⟩), .pointer (some ⟨cb, 0, none⟩)] w (Wrote h w b v xs (numV x)) := by
  refine Calls.enterM (codM b v xs) [.atom (.raw (.pointer (some ⟨ib, 0, none⟩))), .atom (.raw (.pointer (some ⟨cb, 0, none⟩)))] Try.func148 (c := bodyOf Try.f148) (by kernel_rfl) Try.ntmps148 (by kernel_rfl) hm ⟨⟨rfl, rfl⟩, ⟨rfl, rfl⟩, trivial⟩ (by simp) hs ?_
  refine G.runE tm 100 ?_
  refine G.sem (m := valS (Instr.loadAt 125 (.pointer (some ⟨cb, 0, none⟩)))) (d := some 3) (g := none) (by kernel_rfl) (by kernel_rfl) (.pointer (some ⟨b, 0, none⟩)) (.atom (.raw (.pointer (some ⟨b, 0, none⟩)))) (fun _ _ => ⟨rfl, rfl⟩)
    (says_of fun w hw => run_valS (loadCell Try.underlying125 rfl hc rfl hw)) ?_
  refine G.toPtr 3 0 (b := b) (off := 0) (x := codB v xs.length) (by kernel_rfl) (by kernel_rfl) ?_
  refine G.runE tm 100 ?_
  refine G.callW 0 0 [1] (f := 118) (svs := [.atom (.ptr 0 0), .atom (.bsl 1 0 1 1)]) (d := some 6) (by kernel_rfl) (by kernel_rfl) (by kernel_rfl) (v := v) (n := xs.length) (xs := xs) (by kernel_rfl) (by kernel_rfl) (by kernel_rfl) rfl
    (zs := numV x) (r := .tuple #[]) (n' := xs.length + 6) (by rw [numV_len]) (fun β w tmps l hS hl hsub hmem => ?_) fun v' => ?_
  · obtain ⟨a1, a2, rfl, ⟨rfl, -⟩, ⟨rfl, -⟩⟩ := args2 hl
    have h1 := hS.ptrs (ro := [1]) (q := 1) (bi := none) (T := 171) (cs := [.raw (.pointer (some ⟨ib, 0, none⟩))]) (l := [x]) (by kernel_rfl) (by simp) ⟨⟨_, _, _, hi, rfl⟩, trivial⟩ (by simp)
    have h2 := f118_ok (v := v) (xs := xs) h1 hmem hsub (by simpa using hn)
    rw [show [x].flatMap numV = numV x by simp] at h2
    exact h2
  refine G.runE tm 100 ?_
  exact G.retM (codM b v xs) Try.func148 Try.results148 (.tuple #[]) (by kernel_rfl) rfl ⟨[(b, codB v' (xs.length + 6))], [⟨5, 1, v', xs.length + 6, xs ++ numV x⟩]⟩ (nb := 1) (no := 1) (by kernel_rfl) (by kernel_rfl) rfl fun w' hg =>
    ⟨v', rfl, mk_wrote hg (by rw [List.length_append, numV_len]) rfl⟩

/-- A list of numbers, written. -/
def intsB (l : List Int) : List Value := numV l.length ++ l.flatMap numV

theorem f147_ok {b cb sb so : Nat} {v lv : Value} {xs : List Value} {l : List Int} {k : Int} {arr : Array Value} {T T' : TypeId} {fr fr' : Nat × Nat} (hk : 0 < k) (hp : h sb = some (.cells arr T fr)) (ht : arr[so]? = some lv) (hl : SlR h 1 IntR lv l)
    (hc : h cb = some (.cells #[.pointer (some ⟨b, 0, none⟩)] T' fr')) (hm : MemOk h w (codM b v xs)) (hs : Sub h w) (hn : xs.length + (intsB l).length ≤ 140737488351232) :
    Calls Try.prog 147 #[.pointer (some ⟨b, 0, none⟩), .pointer (some ⟨sb, so, none⟩), .int .i64 k, .func (.func 148) #[] #[.pointer (some ⟨cb, 0, none⟩)]] w (Wrote h w b v xs (intsB l)) := by
  have hlen := hl.len
  rw [intsB, List.length_append, numV_len] at hn
  refine Calls.enterM (codM b v xs) [.atom (.ptr 0 0), .atom (.raw (.pointer (some ⟨sb, so, none⟩))), .atom (.int .i64 k), .atom (.raw (.func (.func 148) #[] #[.pointer (some ⟨cb, 0, none⟩)]))] Try.func147 (c := bodyOf Try.f147) (by kernel_rfl) Try.ntmps147 (by kernel_rfl) hm
    ⟨⟨rfl, Nat.zero_lt_one⟩, ⟨rfl, rfl⟩, rfl, ⟨rfl, rfl⟩, trivial⟩ (by simp) hs ?_
  refine G.runE tm 100 ?_
  refine G.sem (m := valS (Instr.loadAt 30 (.pointer (some ⟨sb, so, none⟩)))) (d := some 16) (g := none) (by kernel_rfl) (by kernel_rfl) lv (.atom (.sl lv l.length)) (hl.sv) (says_of fun w hw => run_valS (loadCell Try.underlying30 rfl hp ht hw)) ?_
  refine G.runE tm 100 ?_
  refine G.callW 0 0 [] (f := 144) (svs := [.atom (.ptr 0 0), .atom (.int .i64 l.length), .atom (.int .i64 k)]) (d := some 19) (by kernel_rfl) (by kernel_rfl) (by kernel_rfl) (v := v) (n := xs.length) (xs := xs) (by kernel_rfl) (by kernel_rfl) (by kernel_rfl) rfl
    (zs := numV l.length) (r := .int .i64 l.length) (n' := xs.length + 6) (by rw [numV_len]) (fun β w tmps l hS hl hsub hmem => ?_) fun v1 => ?_
  · obtain ⟨a1, a2, a3, rfl, ⟨rfl, -⟩, rfl, rfl⟩ := args3 hl
    exact f144_ok hk hmem hsub (by omega)
  refine G.runE tm 100 ?_
  refine G.condT (b := true) (by kernel_rfl) rfl ?_
  refine G.runE tm 100 ?_
  refine G.sem (m := valS (Instr.loadAt 30 (.pointer (some ⟨sb, so, none⟩)))) (d := some 26) (g := none) (by kernel_rfl) (by kernel_rfl) lv (.atom (.sl lv l.length)) (hl.sv) (says_of fun w hw => run_valS (loadCell Try.underlying30 rfl hp ht hw)) ?_
  refine G.runE tm 100 ?_
  refine G.loop (α := Nat × Value × List Value × Nat)
    (fun x => ⟨[(3, .one (.atom (.raw (.func (.func 148) #[] #[.pointer (some ⟨cb, 0, none⟩)])))), (26, .one (.atom (.sl lv l.length))), (27, .one (.atom (.int .i64 l.length))), (28, .one (.atom (.int .i64 x.1)))],
      [(0, ⟨some b, codB x.2.1 x.2.2.2⟩)], 1, [(0, ⟨5, 1, x.2.1, x.2.2.2, x.2.2.1⟩)]⟩)
    (fun x g => g = h ∧ x.1 ≤ l.length ∧ x.2.2.1 = xs ++ (numV l.length ++ (l.take x.1).flatMap numV) ∧ x.2.2.2 = x.2.2.1.length) (fun x => l.length - x.1) (0, v1, xs ++ numV l.length, xs.length + 6) [3, 26, 27, 28] [0] 1 [0] (by kernel_rfl) (by kernel_rfl) (by kernel_rfl)
      ⟨rfl, Nat.zero_le _, by simp, by simp [numV_len]⟩ ?_
  rintro ⟨i, u, ys, m⟩ g ⟨rfl, hi, hys, hml⟩ IH
  simp only at hi hys hml
  refine G.runE tm 100 ?_
  refine G.cond (decide ((i : Int) < (l.length : Int))) (by kernel_rfl) (fun hc1 => ?_) (fun hc1 => ?_)
  · have hlt : i < l.length := by simpa using hc1
    obtain ⟨x, hx⟩ := get_of_lt hlt
    have hbd := flat_take_le (f := numV) hx
    have hml2 : m = xs.length + 6 + ((l.take i).flatMap numV).length := by rw [hml, hys]; simp only [List.length_append, numV_len]; omega
    refine G.runE tm 100 ?_
    refine G.idx (d1 := some 30) (g := none) (T := 30) (E := 3) hl Try.underlying30 z3 hlt (by kernel_rfl) (by kernel_rfl) ?_
    refine G.elInt (d1 := some 31) (g := none) (E := 3) hl u3 hx (by kernel_rfl) (by kernel_rfl) ?_
    refine G.runE tm 100 ?_
    refine G.callW 0 0 [1] (f := 148) (svs := [.atom (.ptr 1 0), .atom (.raw (.pointer (some ⟨cb, 0, none⟩)))]) (d := some 33) (by kernel_rfl) (by kernel_rfl) (by kernel_rfl) (v := u) (n := m) (xs := ys) (by kernel_rfl) (by kernel_rfl) (by kernel_rfl) hml
      (zs := numV x) (r := .tuple #[]) (n' := m + (numV x).length) rfl (fun β w tmps l hS hl hsub hmem => ?_) fun v2 => ?_
    · obtain ⟨a1, a2, rfl, ⟨rfl, -⟩, ⟨rfl, -⟩⟩ := args2 hl
      have hβ : β 0 = b := hS.key (x := codB u m) (by kernel_rfl)
      rw [hβ] at hmem ⊢
      exact f148_ok (hS.roCells (ro := [1]) (k := 1) (bi := none) (T := 3) (cs := [.int .i64 x]) (vs := [.int .i64 x]) (by kernel_rfl) (by simp) rfl) (hS.roLe [1] _ _ hc) hmem hsub (by rw [← hml]; rw [numV_len] at hbd; omega)
    refine G.runE tm 100 ?_
    refine G.reint (k := .i64) 28 (by kernel_rfl) (wrap_succ hlt hlen) ?_
    refine G.back (by kernel_rfl) [3, 26, 27, 28] [0] 1 [0] (by kernel_rfl) (by kernel_rfl) (IH (i + 1, v2, ys ++ numV x, m + (numV x).length) _ ⟨rfl, hlt, ?_, ?_⟩ (by simp only; omega))
    · simp only; rw [flat_snoc hx, hys]; simp only [List.append_assoc]
    · simp only [List.length_append]; omega
  · obtain rfl : i = l.length := by simp at hc1; omega
    refine G.runE tm 100 ?_
    rw [List.take_length] at hys
    exact G.retM (codM b v xs) Try.func147 Try.results147 (.tuple #[]) (by kernel_rfl) rfl ⟨[(b, codB u m)], [⟨5, 1, u, m, ys⟩]⟩ (nb := 1) (no := 1) (by kernel_rfl) (by kernel_rfl) rfl fun w' hg =>
      ⟨u, rfl, mk_wrote hg (by rw [hml, hys]; rfl) hys⟩
end w
end Go.Proofs.Ytkjahaoobdbffaa
