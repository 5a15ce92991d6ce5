/- Merged: K19 K22 K23 K24 B23 K25 K26 B24 -/
import Derived.Test.YtkjahaoobdbffaaX6

/- The codec as a reader of what it has written: entries, lists of entries, records. -/
namespace Go.Proofs.Ytkjahaoobdbffaa
open Go Go.RowKit
attribute [local irreducible] G GD GDop

theorem el22 : ElT Try.prog 22 34 9 104 := .of Try.underlying22 (by kernel_rfl) (by decide)

/-- An entry that is small enough to be read again. -/
structure entOk (e : Ent) : Prop where
  ns : ∀ n ∈ entNs e, numOk n
  put : ∀ r ∈ e.put, rulOk r
  drop : ∀ n ∈ e.drop, numOk n
  lp : e.put.length ≤ 1000000
  ld : e.drop.length ≤ 1000000

theorem inR_iff {lo hi n : Int} : inR lo hi n = true ↔ lo ≤ n ∧ n ≤ hi := by simp [inR]

theorem rulOk_of {r : Rul} (h : rulRight r = true) : rulOk r := by
  simp only [rulRight, Bool.and_eq_true, decide_eq_true_eq] at h
  unfold rulOk numOk
  omega

theorem entOk_of {e : Ent} (h : entRight e = true) : entOk e := by
  simp only [entRight, Bool.and_eq_true, inR_iff, decide_eq_true_eq, Bool.not_eq_true', List.any_eq_false] at h
  refine ⟨?_, ?_, ?_, by omega, by omega⟩
  · simp only [entNs, List.mem_cons, List.not_mem_nil, or_false, forall_eq_or_imp, forall_eq]
    unfold numOk; omega
  · intro r hr
    exact rulOk_of (by have := h.1.2 r hr; simpa using this)
  · intro n hn
    have h3 : inR 1 1099511627776 n = true := by have := h.2 n hn; simpa using this
    rw [inR_iff] at h3
    unfold numOk; omega

theorem SlR.hide1 {α : Type} {hc : GH} {R : List Value → α → Prop} {v : Value} {l : List α} (hs : SlR hc 1 R v l) {β : Nat → Nat} {ro : List Nat} (hk : ∀ k ∈ ro, ∃ u T fr, hc (β k) = some (.cells #[u] T fr) ∧ ∀ x, ¬ R [u] x) : SlR (hideH β ro hc) 1 R v l := by
  obtain ⟨ao, cap, h1, h2, h3, h4⟩ := hs
  refine ⟨ao, cap, h1, h2, h3, ?_⟩
  rcases h4 with h4 | ⟨b, off, arr, T, fr, e1, e2, e3, e4⟩
  · exact .inl h4
  · by_cases hl : l = []
    · exact .inl hl
    · refine .inr ⟨b, off, arr, T, fr, e1, ?_, e3, e4⟩
      unfold hideH
      rw [if_neg]
      · exact e2
      · intro hh
        obtain ⟨k, hk1, hk2⟩ := List.any_eq_true.1 hh
        obtain ⟨u, T', fr', h5, h6⟩ := hk k hk1
        rw [Nat.eq_of_beq_eq_true hk2, e2] at h5
        simp only [Option.some.injEq, Obj.cells.injEq] at h5
        obtain ⟨rfl, -, -⟩ := h5
        match l, hl with
        | x :: l, _ =>
          simp only [List.length_cons, List.size_toArray, List.length_nil] at e3
          have h0 : off = 0 := by omega
          subst h0
          exact h6 x (by have := e4 0 x rfl; simpa using this)

def zEnt : Ent := ⟨0, 0, 0, 0, 0, 0, 0, [], []⟩

section r
variable {h : GH} {w : World}

set_option maxHeartbeats 2000000 in
theorem f120r_ok {b tb : Nat} {dv : Value} {xs rest : List Value} {pos : Nat} {e : Ent} (hd : BytesR h dv xs) (he : entOk e) (hx : xs.drop pos = entB e ++ rest) (hm : MemOk h w (enM b tb dv xs.length pos (eC zEnt nilS 0 nilS 0))) (hs : Sub h w) :
    Calls Try.prog 120 #[.pointer (some ⟨b, 0, none⟩), .pointer (some ⟨tb, 0, none⟩)] w fun en w' => ∃ p d h', en = .returned (.tuple #[]) ∧ Mend h w (enM b tb dv xs.length pos (eC zEnt nilS 0 nilS 0)) h' w' (enM b tb dv xs.length (pos + (entB e).length) (eC e p e.put.length d e.drop.length)) ∧ SlR h' 5 RulR p e.put ∧ SlR h' 1 IntR d e.drop := by
  rw [entB, List.append_assoc, List.append_assoc] at hx
  have hx2 := (drop_step hx).1
  have hx3 := (drop_step hx2).1
  have h42 : ((entNs e).flatMap numV).length = 42 := by rw [flat_len]; rfl
  rw [h42] at hx2 hx3
  have hnum : numOk e.view ∧ numOk e.client ∧ numOk e.request ∧ numOk e.dflt ∧ numOk e.closed ∧ numOk e.fuel ∧ numOk e.stack := by
    have := he.ns
    simpa [entNs] using this
  refine Calls.enterM (enM b tb dv xs.length pos (eC zEnt nilS 0 nilS 0)) [.atom (.ptr 0 0), .atom (.ptr 1 0)] Try.func120 (c := bodyOf Try.f120) (by kernel_rfl) Try.ntmps120 (by kernel_rfl) hm ⟨⟨rfl, Nat.zero_lt_two⟩, ⟨rfl, Nat.one_lt_two⟩, trivial⟩ (by simp) hs ?_
  refine G.runE tm 100 ?_
  refine G.rebox 1 (b := ⟨some tb, .lit 34 (eC zEnt nilS 0 nilS 0)⟩) (x := .obj (.cells (entA zEnt nilS nilS) 34 (0, 0))) (by kernel_rfl) (fun β w hh => BoxOk.toObj (vs := (entA zEnt nilS nilS).toList) rfl hh) ?_
  refine G.draw [2] tm (by kernel_rfl) (by kernel_rfl) ?_
  refine GD.run (by kernel_rfl) 60 ?_
  refine GD.one 27 (by kernel_rfl) (GDop.callRd 0 1 [3] (f := 118) (svs := [.atom (.ptr 0 0), .atom (.bsl 3 0 7 7)]) (d := some 31) (by kernel_rfl) (by kernel_rfl) (by kernel_rfl) (T := 34) (dv := dv) (n := xs.length) (pos := pos) (arr := entA zEnt nilS nilS) (by kernel_rfl) (by kernel_rfl) (by kernel_rfl) (by kernel_rfl)
    (pos' := pos + 42) (arr' := entA { e with put := [], drop := [] } nilS nilS) (r := .tuple #[]) (fun β w tmps l hS hl hsub hmem => ?_) ?_)
  · obtain ⟨a1, a2, rfl, ⟨rfl, -⟩, ⟨rfl, -⟩⟩ := args2 hl
    exact f118r_ok (ps := [(0, e.view), (1, e.client), (2, e.request), (3, e.dflt), (4, e.closed), (5, e.fuel), (6, e.stack)]) (rest := rulsB e.put ++ (intsB e.drop ++ rest)) (SlR.mono hd (hS.roLe [3]) fun _ _ h => h)
      (hS.ptrsTo (ro := [3]) (q := 3) (kt := 1) (bi := none) (T := 171) (ps := [(0, e.view), (1, e.client), (2, e.request), (3, e.dflt), (4, e.closed), (5, e.fuel), (6, e.stack)]) (by kernel_rfl) (by simp) (by simp))
      (by obtain ⟨h1, h2, h3, h4, h5, h6, h7⟩ := hnum; simp [h1, h2, h3, h4, h5, h6, h7, entA]) (by simpa [entNs] using hx) hmem hsub
  refine GD.run (by kernel_rfl) 50 ?_
  refine GD.fin (by kernel_rfl) ?_
  refine G.rebox 1 (b := ⟨some tb, .obj (.cells (entA { e with put := [], drop := [] } nilS nilS) 34 (0, 0))⟩) (x := .lit 34 (eC e nilS 0 nilS 0)) (by kernel_rfl)
    (fun β w hh => BoxOk.toLit (cs := eC e nilS 0 nilS 0) (show CellsOk _ _ (eC e nilS 0 nilS 0) (entA { e with put := [], drop := [] } nilS nilS).toList from ⟨rfl, rfl, rfl, rfl, rfl, rfl, rfl, ⟨rfl, _, _, rfl⟩, ⟨rfl, _, _, rfl⟩, trivial⟩) hh) ?_
  refine G.runE tm 100 ?_
  refine G.draw [2] tm (by kernel_rfl) (by kernel_rfl) ?_
  refine GD.run (by kernel_rfl) 60 ?_
  refine GD.one 7 (by kernel_rfl) (GDop.callM [0, 1] [] [] (f := 145) (svs := [.atom (.ptr 0 0), .atom (.ptr 1 7), .atom (.int .i64 30), .atom (.clo 146 true 0 0)]) (d := some 39) (by kernel_rfl) (by kernel_rfl) (by kernel_rfl) (bs := [rdB dv xs.length (pos + 42), .lit 34 (eC e nilS 0 nilS 0)]) (os := []) (by kernel_rfl) (by kernel_rfl) (by kernel_rfl) (by kernel_rfl) (by kernel_rfl)
    (fun h' v bs os => v = .tuple #[] ∧ ∃ p, bs = [rdB dv xs.length (pos + 42 + (rulsB e.put).length), .lit 34 (eC e p e.put.length nilS 0)] ∧ os = [] ∧ SlR h' 5 RulR p e.put) (fun β w tmps l hS hl hsub hmem => ?_) ?_)
  · obtain ⟨a1, a2, a3, a4, rfl, ⟨rfl, -⟩, ⟨rfl, -⟩, rfl, ⟨rfl, -⟩⟩ := args4 hl
    refine (f145r_ok (b := β 0) (tb := β 1) (pos := pos + 42) (e := e) (l := e.put) (SlR.mono hd (hS.roLe []) fun _ _ h => h) he.put he.lp hx2 hmem hsub).mono ?_
    rintro en w' ⟨p, h', rfl, hmend, hp⟩
    exact ⟨_, [rdB dv xs.length (pos + 42 + (rulsB e.put).length), .lit 34 (eC e p e.put.length nilS 0)], [], _, rfl, rfl, rfl, hmend, rfl, p, rfl, rfl, by rw [hideH_nil]; exact hp⟩
  rintro h1 v bs os ⟨rfl, p, rfl, rfl, hp⟩ hle1
  refine ⟨.ofV (.tuple #[]), fun N β tmps => SVofV_ok N β tmps _, ?_⟩
  refine GD.run (by kernel_rfl) 50 ?_
  refine GD.fin (by kernel_rfl) ?_
  refine G.runE tm 100 ?_
  refine G.draw [2] tm (by kernel_rfl) (by kernel_rfl) ?_
  refine GD.run (by kernel_rfl) 60 ?_
  refine GD.one 6 (by kernel_rfl) (GDop.callM [0, 1] [] [2] (f := 147) (svs := [.atom (.ptr 0 0), .atom (.ptr 1 8), .atom (.int .i64 6), .atom (.clo 148 false 2 0)]) (d := some 46) (by kernel_rfl) (by kernel_rfl) (by kernel_rfl) (bs := [rdB dv xs.length (pos + 42 + (rulsB e.put).length), .lit 34 (eC e p e.put.length nilS 0)]) (os := []) (by kernel_rfl) (by kernel_rfl) (by kernel_rfl) (by kernel_rfl) (by kernel_rfl)
    (fun h' v bs os => v = .tuple #[] ∧ ∃ d, bs = [rdB dv xs.length (pos + 42 + (rulsB e.put).length + (intsB e.drop).length), .lit 34 (eC e p e.put.length d e.drop.length)] ∧ os = [] ∧ SlR h' 1 IntR d e.drop) (fun β w tmps l hS hl hsub hmem => ?_) ?_)
  · obtain ⟨a1, a2, a3, a4, rfl, ⟨rfl, -⟩, ⟨rfl, -⟩, rfl, ⟨rfl, -⟩⟩ := args4 hl
    have hcb := hS.roPtr (ro := [2]) (k := 2) (j := 0) (off := 0) (bi := none) (T := 125) (by kernel_rfl) (by simp)
    refine (f147r_ok (b := β 0) (tb := β 1) (pos := pos + 42 + (rulsB e.put).length) (e := e) (l := e.drop) (SlR.mono hd (fun x o hh => hS.roLe [2] x o (hle1 x o hh)) fun _ _ h => h) he.drop he.ld hx3 hcb hmem hsub).mono ?_
    rintro en w' ⟨d, h', rfl, hmend, hp⟩
    refine ⟨_, [rdB dv xs.length (pos + 42 + (rulsB e.put).length + (intsB e.drop).length), .lit 34 (eC e p e.put.length d e.drop.length)], [], _, rfl, rfl, rfl, hmend, rfl, d, rfl, rfl, hp.hide1 fun k hk => ?_⟩
    simp only [List.mem_singleton] at hk; subst hk
    exact ⟨_, _, _, hmend.le _ _ hcb, fun x hx => by simp [IntR] at hx⟩
  rintro h2 v bs os ⟨rfl, d, rfl, rfl, hdd⟩ hle2
  refine ⟨.ofV (.tuple #[]), fun N β tmps => SVofV_ok N β tmps _, ?_⟩
  refine GD.run (by kernel_rfl) 50 ?_
  refine GD.fin (by kernel_rfl) ?_
  refine G.runE tm 100 ?_
  exact G.retM (enM b tb dv xs.length pos (eC zEnt nilS 0 nilS 0)) Try.func120 Try.results120 (.tuple #[]) (by kernel_rfl) rfl (enM b tb dv xs.length (pos + 42 + (rulsB e.put).length + (intsB e.drop).length) (eC e p e.put.length d e.drop.length)) (nb := 2) (no := 0) (by kernel_rfl) (by kernel_rfl) rfl
    fun w' hg => ⟨p, d, h2, rfl, by rw [entB, List.length_append, List.length_append, h42, show pos + (42 + ((rulsB e.put).length + (intsB e.drop).length)) = pos + 42 + (rulsB e.put).length + (intsB e.drop).length by omega]; exact hg, hp.mono hle2 fun _ _ h => h, hdd⟩

def rcC (m : Rcd) (p : Value) (np : Nat) : List Cell := [.int .i64 m.kind, .int .i64 m.a, .int .i64 m.b, .sl p np]
def rcM (b tb : Nat) (dv : Value) (n pos : Nat) (cs : List Cell) : Mem := ⟨[(b, rdB dv n pos), (tb, .lit 110 cs)], []⟩
theorem entB_len (e : Ent) : 54 ≤ (entB e).length := by
  rw [entB, List.length_append, List.length_append, flat_len, rulsB, intsB, List.length_append, List.length_append, numV_len, numV_len]; simp only [entNs, List.length_cons, List.length_nil]; omega

set_option maxHeartbeats 1000000 in
theorem f119r_ok {b tb : Nat} {dv : Value} {xs rest : List Value} {pos : Nat} {m : Rcd} {l : List Ent} (hd : BytesR h dv xs) (hr : ∀ e ∈ l, entOk e) (hn : l.length ≤ 1000000) (hx : xs.drop pos = entsB l ++ rest) (hm : MemOk h w (rcM b tb dv xs.length pos (rcC m nilS 0))) (hs : Sub h w) :
    Calls Try.prog 119 #[.pointer (some ⟨b, 0, none⟩), .pointer (some ⟨tb, 3, none⟩), .int .i64 54, .func (.func 120) #[.pointer (some ⟨b, 0, none⟩)] #[]] w fun en w' => ∃ p h', en = .returned (.tuple #[]) ∧ Mend h w (rcM b tb dv xs.length pos (rcC m nilS 0)) h' w' (rcM b tb dv xs.length (pos + (entsB l).length) (rcC m p l.length)) ∧ EntsR h' p l := by
  rw [entsB, List.append_assoc] at hx
  have hx2 := (drop_step hx).1
  rw [numV_len] at hx2
  have hfl : 54 * l.length ≤ (l.flatMap entB).length := by
    clear hx hx2 hn hr
    induction l with
    | nil => simp
    | cons a l ih => have := entB_len a; simp only [List.flatMap_cons, List.length_append, List.length_cons]; omega
  refine Calls.enterM (rcM b tb dv xs.length pos (rcC m nilS 0)) [.atom (.ptr 0 0), .atom (.ptr 1 3), .atom (.int .i64 54), .atom (.clo 120 true 0 0)] Try.func119 (c := bodyOf Try.f119) (by kernel_rfl) Try.ntmps119 (by kernel_rfl) hm
    ⟨⟨rfl, Nat.zero_lt_two⟩, ⟨rfl, Nat.one_lt_two⟩, rfl, ⟨rfl, Nat.zero_lt_two⟩, trivial⟩ (by simp) hs ?_
  refine G.runE tm 100 ?_
  refine G.callR1 0 [] (f := 144) (svs := [.atom (.ptr 0 0), .atom (.int .i64 0), .atom (.int .i64 54)]) (d := some 19) (by kernel_rfl) (by kernel_rfl) (by kernel_rfl) (dv := dv) (n := xs.length) (pos := pos) (by kernel_rfl) (by kernel_rfl)
    (pos' := pos + 6) (r := .int .i64 l.length) (fun β w tmps l' hS hl hsub hmem => ?_) ?_
  · obtain ⟨a1, a2, a3, rfl, ⟨rfl, -⟩, rfl, rfl⟩ := args3 hl
    exact f144r_ok (SlR.mono hd (hS.roLe []) fun _ _ h => h) (by omega) (by decide) hx (by rw [List.length_append]; omega) hmem hsub
  refine G.runE tm 100 ?_
  refine G.condF (b := false) (by kernel_rfl) rfl ?_
  refine G.runE tm 100 ?_
  refine G.ownNil 0 34 9 ?_
  refine G.loop (α := Nat × Value × List Value × Nat)
    (fun x => ⟨[(0, .one (.atom (.ptr 0 0))), (1, .one (.atom (.ptr 1 3))), (3, .one (.atom (.clo 120 true 0 0))), (8, .one (.atom (.int .i64 l.length))), (11, .one (.atom (.int .i64 x.1)))],
      [(0, ⟨some b, rdB dv xs.length x.2.2.2⟩), (1, ⟨some tb, .lit 110 (rcC m x.2.1 x.1)⟩)], 2, [(0, ⟨34, 9, x.2.1, x.1, x.2.2.1⟩)]⟩)
    (fun x g => GLe h g ∧ x.1 ≤ l.length ∧ ListR 9 (EntR g) x.2.2.1 (l.take x.1) ∧ x.2.2.2 = pos + 6 + ((l.take x.1).flatMap entB).length) (fun x => l.length - x.1) (0, nilS, [], pos + 6) [0, 1, 3, 8, 11] [0, 1] 2 [0] (by kernel_rfl) (by kernel_rfl) (by kernel_rfl)
      ⟨GLe.refl h, Nat.zero_le _, by simpa using ListR.nil, by simp⟩ ?_
  rintro ⟨i, u, ys, q⟩ g ⟨hle, hi, hys, hq⟩ IH
  simp only at hi hys hq
  refine G.runE tm 100 ?_
  refine G.cond (decide ((i : Int) < (l.length : Int)) && !false) (by kernel_rfl) (fun hc => ?_) (fun hc => ?_)
  · have hlt : i < l.length := by simpa using hc
    obtain ⟨r, hri⟩ := get_of_lt hlt
    have hxr := drop_flat hx2 hri
    rw [← hq] at hxr
    refine G.runE tm 100 ?_
    refine G.callM [0, 2] [] [] (f := 120) (svs := [.atom (.ptr 0 0), .atom (.ptr 2 0)]) (d := some 48) (by kernel_rfl) (by kernel_rfl) (by kernel_rfl) (bs := [rdB dv xs.length q, .lit 34 (eC zEnt nilS 0 nilS 0)]) (os := []) (by kernel_rfl) (by kernel_rfl) (by kernel_rfl)
      (fun h' v bs os => v = .tuple #[] ∧ os = [] ∧ ∃ p d, bs = [rdB dv xs.length (q + (entB r).length), .lit 34 (eC r p r.put.length d r.drop.length)] ∧ SlR h' 5 RulR p r.put ∧ SlR h' 1 IntR d r.drop) (fun β w tmps l' hS hl hsub hmem => ?_) ?_
    · obtain ⟨a1, a2, rfl, ⟨rfl, -⟩, ⟨rfl, -⟩⟩ := args2 hl
      refine (f120r_ok (b := β 0) (tb := β 2) (pos := q) (e := r) (SlR.mono hd (fun x o hh => hS.roLe [] x o (hle x o hh)) fun _ _ h => h) (hr r (List.mem_of_getElem? hri)) hxr hmem hsub).mono ?_
      rintro en w' ⟨p, d, h', rfl, hmend, hp, hdd⟩
      exact ⟨_, [rdB dv xs.length (q + (entB r).length), .lit 34 (eC r p r.put.length d r.drop.length)], [], _, rfl, rfl, rfl, hmend, rfl, rfl, p, d, rfl, by rw [hideH_nil]; exact hp, by rw [hideH_nil]; exact hdd⟩
    rintro h' v bs os ⟨rfl, rfl, p, d, rfl, hp, hdd⟩ hgg
    refine ⟨.ofV (.tuple #[]), fun N β tmps => SVofV_ok N β tmps _, ?_⟩
    refine G.runE tm 100 ?_
    refine G.draw [2] tm (by kernel_rfl) (by kernel_rfl) ?_
    refine GD.autoN (by kernel_rfl) 10 2 (by kernel_rfl) (by kernel_rfl) ?_
    refine GD.one 6 (by kernel_rfl) (GDop.appLit (T := 22) (v := u) (m := i) (xs := ys) (kx := 3) (q := 1) (q' := 1) (d := some 55) el22 0 (by kernel_rfl) (by kernel_rfl) (by kernel_rfl) (bi := none) (e' := 34) (cs := eC r p r.put.length d r.drop.length) (by kernel_rfl)
      (news := (entA r p d).toList) (by kernel_rfl) rfl (by omega) (by omega) fun u' _ => ?_)
    refine GD.run (by kernel_rfl) 50 ?_
    refine GD.fin (by kernel_rfl) ?_
    refine G.runE tm 100 ?_
    refine G.reint (k := .i64) (a := IntKind.i64.wrap ((i : Int) + 1)) (b := ((i + 1 : Nat) : Int)) 11 (by kernel_rfl) (by rw [IntWalk.i64_in _ (by omega)]; rfl) ?_
    refine G.back (by kernel_rfl) [0, 1, 3, 8, 11] [0, 1] 2 [0] (by kernel_rfl) (by kernel_rfl) (IH (i + 1, u', ys ++ (entA r p d).toList, q + (entB r).length) _ ⟨hle.trans hgg, hlt, ?_, ?_⟩ (by simp only; omega))
    · simp only; rw [List.take_add_one, hri]; exact (hys.mono fun _ _ h => h.mono hgg).snoc rfl (EntR.mk hp hdd)
    · simp only; rw [flat_snoc hri, List.length_append]; omega
  · obtain rfl : i = l.length := by simp at hc; omega
    rw [List.take_length] at hys hq
    refine G.runE tm 100 ?_
    refine G.freeze 0 (e := 34) (sz := 9) (v := u) (m := l.length) (xs := ys) (by kernel_rfl) fun h' hle' hf _ => ?_
    have hv := SlR.of_freeze hf (hys.mono fun _ _ h => h.mono hle') rfl (by omega)
    exact G.retM (rcM b tb dv xs.length pos (rcC m nilS 0)) Try.func119 Try.results119 (.tuple #[]) (by kernel_rfl) rfl (rcM b tb dv xs.length q (rcC m u l.length)) (nb := 2) (no := 0) (by kernel_rfl) (by kernel_rfl) rfl
      fun w' hg => ⟨u, h', rfl, by rw [entsB, List.length_append, numV_len, show pos + (6 + (l.flatMap entB).length) = q by omega]; exact hg, hv⟩

/-- A record that is small enough to be read again. -/
structure rcdOk (m : Rcd) : Prop where
  ns : numOk m.kind ∧ numOk m.a ∧ numOk m.b
  log : ∀ e ∈ m.log, entOk e
  ll : m.log.length ≤ 1000000

def zRcd : Rcd := ⟨0, 0, 0, []⟩

set_option maxHeartbeats 1000000 in
theorem f112r_ok {b tb : Nat} {dv : Value} {xs rest : List Value} {pos : Nat} {m : Rcd} (hd : BytesR h dv xs) (hr : rcdOk m) (hx : xs.drop pos = rcdB m ++ rest) (hm : MemOk h w (rcM b tb dv xs.length pos (rcC zRcd nilS 0))) (hs : Sub h w) :
    Calls Try.prog 112 #[.pointer (some ⟨b, 0, none⟩), .pointer (some ⟨tb, 0, none⟩)] w fun en w' => ∃ p h', en = .returned (.tuple #[]) ∧ Mend h w (rcM b tb dv xs.length pos (rcC zRcd nilS 0)) h' w' (rcM b tb dv xs.length (pos + (rcdB m).length) (rcC m p m.log.length)) ∧ EntsR h' p m.log := by
  rw [rcdB, List.append_assoc] at hx
  have hx2 := (drop_step hx).1
  have h18 : ((rcdNs m).flatMap numV).length = 18 := by rw [flat_len]; rfl
  rw [h18] at hx2
  refine Calls.enterM (rcM b tb dv xs.length pos (rcC zRcd nilS 0)) [.atom (.ptr 0 0), .atom (.ptr 1 0)] Try.func112 (c := bodyOf Try.f112) (by kernel_rfl) Try.ntmps112 (by kernel_rfl) hm ⟨⟨rfl, Nat.zero_lt_two⟩, ⟨rfl, Nat.one_lt_two⟩, trivial⟩ (by simp) hs ?_
  refine G.runE tm 100 ?_
  refine G.rebox 1 (b := ⟨some tb, .lit 110 (rcC zRcd nilS 0)⟩) (x := .obj (.cells (rcdA zRcd nilS) 110 (0, 0))) (by kernel_rfl) (fun β w hh => BoxOk.toObj (vs := (rcdA zRcd nilS).toList) rfl hh) ?_
  refine G.draw [] tm (by kernel_rfl) (by kernel_rfl) ?_
  refine GD.run (by kernel_rfl) 60 ?_
  refine GD.one 11 (by kernel_rfl) (GDop.callRd 0 1 [2] (f := 118) (svs := [.atom (.ptr 0 0), .atom (.bsl 2 0 3 3)]) (d := some 15) (by kernel_rfl) (by kernel_rfl) (by kernel_rfl) (T := 110) (dv := dv) (n := xs.length) (pos := pos) (arr := rcdA zRcd nilS) (by kernel_rfl) (by kernel_rfl) (by kernel_rfl) (by kernel_rfl)
    (pos' := pos + 18) (arr' := rcdA m nilS) (r := .tuple #[]) (fun β w tmps l hS hl hsub hmem => ?_) ?_)
  · obtain ⟨a1, a2, rfl, ⟨rfl, -⟩, ⟨rfl, -⟩⟩ := args2 hl
    exact f118r_ok (ps := [(0, m.kind), (1, m.a), (2, m.b)]) (rest := entsB m.log ++ rest) (SlR.mono hd (hS.roLe [2]) fun _ _ h => h)
      (hS.ptrsTo (ro := [2]) (q := 2) (kt := 1) (bi := none) (T := 171) (ps := [(0, m.kind), (1, m.a), (2, m.b)]) (by kernel_rfl) (by simp) (by simp))
      (by obtain ⟨h1, h2, h3⟩ := hr.ns; simp [h1, h2, h3, rcdA]) (by simpa [rcdNs] using hx) hmem hsub
  refine GD.run (by kernel_rfl) 50 ?_
  refine GD.fin (by kernel_rfl) ?_
  refine G.rebox 1 (b := ⟨some tb, .obj (.cells (rcdA m nilS) 110 (0, 0))⟩) (x := .lit 110 (rcC m nilS 0)) (by kernel_rfl)
    (fun β w hh => BoxOk.toLit (cs := rcC m nilS 0) (show CellsOk _ _ (rcC m nilS 0) (rcdA m nilS).toList from ⟨rfl, rfl, rfl, ⟨rfl, _, _, rfl⟩, trivial⟩) hh) ?_
  refine G.runE tm 100 ?_
  refine G.callM [0, 1] [] [] (f := 119) (svs := [.atom (.ptr 0 0), .atom (.ptr 1 3), .atom (.int .i64 54), .atom (.clo 120 true 0 0)]) (d := some 22) (by kernel_rfl) (by kernel_rfl) (by kernel_rfl) (bs := [rdB dv xs.length (pos + 18), .lit 110 (rcC m nilS 0)]) (os := []) (by kernel_rfl) (by kernel_rfl) (by kernel_rfl)
    (fun h' v bs os => v = .tuple #[] ∧ os = [] ∧ ∃ p, bs = [rdB dv xs.length (pos + 18 + (entsB m.log).length), .lit 110 (rcC m p m.log.length)] ∧ EntsR h' p m.log) (fun β w tmps l hS hl hsub hmem => ?_) ?_
  · obtain ⟨a1, a2, a3, a4, rfl, ⟨rfl, -⟩, ⟨rfl, -⟩, rfl, ⟨rfl, -⟩⟩ := args4 hl
    refine (f119r_ok (b := β 0) (tb := β 1) (pos := pos + 18) (m := m) (l := m.log) (SlR.mono hd (hS.roLe []) fun _ _ h => h) hr.log hr.ll hx2 hmem hsub).mono ?_
    rintro en w' ⟨p, h', rfl, hmend, hp⟩
    exact ⟨_, [rdB dv xs.length (pos + 18 + (entsB m.log).length), .lit 110 (rcC m p m.log.length)], [], _, rfl, rfl, rfl, hmend, rfl, rfl, p, rfl, by rw [hideH_nil]; exact hp⟩
  rintro h' v bs os ⟨rfl, rfl, p, rfl, hp⟩ hgg
  refine ⟨.ofV (.tuple #[]), fun N β tmps => SVofV_ok N β tmps _, ?_⟩
  refine G.runE tm 100 ?_
  exact G.retM (rcM b tb dv xs.length pos (rcC zRcd nilS 0)) Try.func112 Try.results112 (.tuple #[]) (by kernel_rfl) rfl (rcM b tb dv xs.length (pos + 18 + (entsB m.log).length) (rcC m p m.log.length)) (nb := 2) (no := 0) (by kernel_rfl) (by kernel_rfl) rfl
    fun w' hg => ⟨p, h', rfl, by rw [rcdB, List.length_append, h18, ← Nat.add_assoc]; exact hg, hp⟩

theorem f113_ok {b : Nat} {dv : Value} {n : Nat} (hn : n ≤ 65536) (hm : MemOk h w (rdM1 b dv n n)) (hs : Sub h w) :
    Calls Try.prog 113 #[.pointer (some ⟨b, 0, none⟩)] w fun e w' => e = .returned (.bool true) ∧ Mend h w (rdM1 b dv n n) h w' (rdM1 b dv n n) := by
  refine Calls.enterM (rdM1 b dv n n) [.atom (.ptr 0 0)] Try.func113 (c := bodyOf Try.f113) (by kernel_rfl) Try.ntmps113 (by kernel_rfl) hm ⟨⟨rfl, Nat.zero_lt_one⟩, trivial⟩ (by simp) hs ?_
  refine G.runE tm 100 ?_
  refine G.rebool 2 (a := (((n : Int) == (n : Int)) && decide ((n : Int) ≤ 65536))) (b := true) (by kernel_rfl) (by simp; omega) ?_
  refine G.runE tm 100 ?_
  exact G.retM (rdM1 b dv n n) Try.func113 Try.results113 (.bool true) (by kernel_rfl) rfl (rdM1 b dv n n) (nb := 1) (no := 0) (by kernel_rfl) (by kernel_rfl) rfl fun w' hg => ⟨rfl, hg⟩

theorem rcdOk_of {m : Rcd} (h : rcdRight m = true) : rcdOk m := by
  simp only [rcdRight, Bool.and_eq_true, inR_iff] at h
  obtain ⟨⟨⟨h1, h2⟩, h3⟩, h4⟩ := h
  refine ⟨by unfold numOk; omega, ?_, ?_⟩
  · intro e he
    split at h4
    · simp only [logged, Bool.and_eq_true, Bool.not_eq_true', List.any_eq_false] at h4
      exact entOk_of (by have := h4.2 e he; simpa using this)
    · have : m.log = [] := by simpa using h4
      rw [this] at he; simp at he
  · split at h4
    · simp only [logged, Bool.and_eq_true, decide_eq_true_eq] at h4; omega
    · have : m.log = [] := by simpa using h4
      rw [this]; simp

set_option maxHeartbeats 1000000 in
theorem f58_ok {dv : Value} {m : Rcd} (hd : BytesR h dv (rcdB m)) (hr : rcdRight m = true) (hn : (rcdB m).length ≤ 65536) (hs : Sub h w) :
    Calls Try.prog 58 #[dv] w fun e w' => ∃ p h', e = .returned (.tuple #[rcdV m p, .int .i64 0]) ∧ Grow h w h' w' ∧ EntsR h' p m.log := by
  refine Calls.enter [.atom (.sl dv (rcdB m).length)] Try.func58 (c := bodyOf Try.f58) (by kernel_rfl) Try.ntmps58 ⟨hd.sv _ _, trivial⟩ (by simp) hs ?_
  refine G.runE tm 100 ?_
  refine G.condT (b := decide (((rcdB m).length : Int) ≤ 65536)) (by kernel_rfl) (by simp; omega) ?_
  refine G.runE tm 100 ?_
  refine G.callM [1, 2] [] [] (f := 112) (svs := [.atom (.ptr 1 0), .atom (.ptr 2 0)]) (d := some 13) (by kernel_rfl) (by kernel_rfl) (by kernel_rfl) (bs := [rdB dv (rcdB m).length 0, .lit 110 (rcC zRcd nilS 0)]) (os := []) (by kernel_rfl) (by kernel_rfl) (by kernel_rfl)
    (fun h' v bs os => v = .tuple #[] ∧ os = [] ∧ ∃ p, bs = [rdB dv (rcdB m).length (rcdB m).length, .lit 110 (rcC m p m.log.length)] ∧ EntsR h' p m.log) (fun β w tmps l hS hl hsub hmem => ?_) ?_
  · obtain ⟨a1, a2, rfl, ⟨rfl, -⟩, ⟨rfl, -⟩⟩ := args2 hl
    refine (f112r_ok (b := β 1) (tb := β 2) (pos := 0) (m := m) (rest := []) (SlR.mono hd (hS.roLe []) fun _ _ h => h) (rcdOk_of hr) (by simp) hmem hsub).mono ?_
    rintro en w' ⟨p, h', rfl, hmend, hp⟩
    rw [Nat.zero_add] at hmend
    exact ⟨_, [rdB dv (rcdB m).length (rcdB m).length, .lit 110 (rcC m p m.log.length)], [], _, rfl, rfl, rfl, hmend, rfl, rfl, p, rfl, by rw [hideH_nil]; exact hp⟩
  rintro h' v bs os ⟨rfl, rfl, p, rfl, hp⟩ hgg
  refine ⟨.ofV (.tuple #[]), fun N β tmps => SVofV_ok N β tmps _, ?_⟩
  refine G.runE tm 100 ?_
  refine G.callR1 1 [] (f := 113) (svs := [.atom (.ptr 1 0)]) (d := some 15) (by kernel_rfl) (by kernel_rfl) (by kernel_rfl) (dv := dv) (n := (rcdB m).length) (pos := (rcdB m).length) (by kernel_rfl) (by kernel_rfl)
    (pos' := (rcdB m).length) (r := .bool true) (fun β w tmps l' hS hl hsub hmem => ?_) ?_
  · obtain ⟨a1, rfl, ⟨rfl, -⟩⟩ := args1 hl
    exact f113_ok hn hmem hsub
  refine G.runE tm 100 ?_
  refine G.callGV (f := 111) (svs := [.agg (rcdC m p)]) (d := 19) (tg := 17) (want := false) (by kernel_rfl) [rcdV m p] (.bool (rcdRight m)) (by kernel_rfl) (by kernel_rfl) (by kernel_rfl) (says_of fun w hs => f111_ok hp hs) ?_
  refine G.runE tm 100 ?_
  refine G.condF (b := !(rcdRight m)) (by kernel_rfl) (by rw [hr]; rfl) ?_
  refine G.runE tm 100 ?_
  exact G.retG Try.func58 Try.results58 (.tuple #[rcdV m p, .int .i64 0]) (by kernel_rfl) rfl fun w' hg => ⟨p, h', rfl, hg, hp⟩
end r
end Go.Proofs.Ytkjahaoobdbffaa

/- Clones and copies of entries, as the replica makes them. -/
namespace Go.Proofs.Ytkjahaoobdbffaa
open Go Go.RowKit
attribute [local irreducible] G GD GDop

theorem run_eql_nil {T E : TypeId} (hT : Try.prog.underlying T = some (.slice E)) (o1 o2 : Operand) (ao : Option Addr) (n c : Nat) (w : World) :
    (do eqGuard .eql T o1 o2 (.slice ao n c) nilS; binOp .eql T (.slice ao n c) nilS).run Try.prog w = .ok (.bool ao.isNone) w := by
  have h1 : (eqGuard .eql T o1 o2 (.slice ao n c) nilS).run Try.prog w = .ok () w := by unfold eqGuard; simp
  have h2 : (Op.equalIn (9999 + 1) T (.slice ao n c) nilS).run Try.prog w = .ok ao.isNone w := by
    rw [Op.equalIn]
    cases ao <;> simp [run_underlying hT]
  have h3 : (Op.equalIn 10000 T (.slice ao n c) nilS).run Try.prog w = .ok ao.isNone w := h2
  simp [Sem.run_bind, h1, binOp, Op.equal, Op.maxDepth, h3]

theorem RulR.one {cs : List Value} {r : Rul} (h : RulR cs r) : ∀ u ∈ cs, u.oneCell' = true := by
  intro u hu
  unfold RulR at h; subst h
  simp only [List.mem_cons, List.not_mem_nil, or_false] at hu
  rcases hu with rfl | rfl | rfl | rfl | rfl <;> rfl
theorem IntR.one {cs : List Value} {r : Int} (h : IntR cs r) : ∀ u ∈ cs, u.oneCell' = true := by
  intro u hu
  unfold IntR at h; subst h
  simp only [List.mem_cons, List.not_mem_nil, or_false] at hu
  subst hu; rfl
theorem EntR.one {g : GH} {cs : List Value} {e : Ent} (h : EntR g cs e) : ∀ u ∈ cs, u.oneCell' = true := by
  obtain ⟨p, d, rfl, hp, hd⟩ := h
  obtain ⟨a1, c1, rfl⟩ := hp.isSlice
  obtain ⟨a2, c2, rfl⟩ := hd.isSlice
  intro u hu
  simp only [List.mem_cons, List.not_mem_nil, or_false] at hu
  rcases hu with rfl | rfl | rfl | rfl | rfl | rfl | rfl | rfl | rfl <;> rfl

theorem SlR.nil {α : Type} {h : GH} {sz : Nat} {R : List Value → α → Prop} : SlR h sz R nilS [] := ⟨none, 0, rfl, Nat.le_refl _, by simp, .inl rfl⟩

theorem SlR.of_none {α : Type} {h : GH} {sz : Nat} {R : List Value → α → Prop} {n c : Nat} {l : List α} (hs : SlR h sz R (.slice none n c) l) : l = [] := by
  obtain ⟨ao, cap, h1, -, -, h4⟩ := hs
  rcases h4 with h4 | ⟨b, off, arr, T, fr, h5, -⟩
  · exact h4
  · simp only [Value.slice.injEq] at h1
    rw [← h1.1] at h5; cases h5

section w
variable {h : GH} {w : World}

theorem f123_ok {v : Value} {l : List Rul} (hl : SlR h 5 RulR v l) (hn : l.length ≤ 1000000) (hs : Sub h w) : Calls Try.prog 123 #[v] w fun e w' => ∃ v' h', e = .returned v' ∧ Grow h w h' w' ∧ SlR h' 5 RulR v' l := by
  obtain ⟨ao, cp, hv⟩ := hl.isSlice
  refine Calls.enter [.atom (.sl v l.length)] Try.func123 (c := bodyOf Try.f123) (by kernel_rfl) Try.ntmps123 ⟨hl.sv _ _, trivial⟩ (by simp) hs ?_
  refine G.runE tm 100 ?_
  refine G.sem (m := valS (do eqGuard .eql 29 (.tmp 3) (.const nilS) v nilS; binOp .eql 29 v nilS)) (d := some 4) (g := none) (by kernel_rfl) (by kernel_rfl) (.bool ao.isNone) (.atom (.bool ao.isNone)) (fun _ _ => rfl) (says_of fun w _ => run_valS (by rw [hv]; exact run_eql_nil Try.underlying29 _ _ _ _ _ w)) ?_
  refine G.runE tm 100 ?_
  refine G.cond ao.isNone (by kernel_rfl) (fun hc => ?_) (fun hc => ?_)
  · refine G.runE tm 100 ?_
    cases ao with
    | some a => simp at hc
    | none =>
      subst hv
      have h0 := SlR.of_none hl
      subst h0
      exact G.retG Try.func123 Try.results123 nilS (by kernel_rfl) rfl fun w' hg => ⟨_, h, rfl, hg, SlR.nil⟩
  · refine G.runE tm 100 ?_
    refine G.boxOwn 0 5 0 (sz := 5) (m := 0) (bi := none) (e := 114) (cs := []) (vs := []) (by kernel_rfl) (by kernel_rfl) rfl (by decide) (by kernel_rfl) fun b => ?_
    refine G.runE tm 100 ?_
    refine G.appGh el29 0 (v := .slice (some ⟨b, 0, none⟩) 0 0) (m := 0) (xs := []) (x := v) (q := l.length) (d := some 7) (by kernel_rfl) (by kernel_rfl) (by kernel_rfl) hl (fun _ _ h => h.one) (by omega) (by omega) fun v' news hnews => ?_
    rw [Nat.zero_add, List.nil_append]
    refine G.runE tm 100 ?_
    refine G.freeze 0 (e := 114) (sz := 5) (v := v') (m := l.length) (xs := news) (by kernel_rfl) fun h' hle hf _ => ?_
    exact G.retG Try.func123 Try.results123 v' (by kernel_rfl) rfl fun w' hg => ⟨v', h', rfl, hg, SlR.of_freeze hf hnews rfl (by omega)⟩

theorem f124_ok {v : Value} {l : List Int} (hl : SlR h 1 IntR v l) (hn : l.length ≤ 1000000) (hs : Sub h w) : Calls Try.prog 124 #[v] w fun e w' => ∃ v' h', e = .returned v' ∧ Grow h w h' w' ∧ SlR h' 1 IntR v' l := by
  obtain ⟨ao, cp, hv⟩ := hl.isSlice
  refine Calls.enter [.atom (.sl v l.length)] Try.func124 (c := bodyOf Try.f124) (by kernel_rfl) Try.ntmps124 ⟨hl.sv _ _, trivial⟩ (by simp) hs ?_
  refine G.runE tm 100 ?_
  refine G.sem (m := valS (do eqGuard .eql 30 (.tmp 3) (.const nilS) v nilS; binOp .eql 30 v nilS)) (d := some 4) (g := none) (by kernel_rfl) (by kernel_rfl) (.bool ao.isNone) (.atom (.bool ao.isNone)) (fun _ _ => rfl) (says_of fun w _ => run_valS (by rw [hv]; exact run_eql_nil Try.underlying30 _ _ _ _ _ w)) ?_
  refine G.runE tm 100 ?_
  refine G.cond ao.isNone (by kernel_rfl) (fun hc => ?_) (fun hc => ?_)
  · refine G.runE tm 100 ?_
    cases ao with
    | some a => simp at hc
    | none =>
      subst hv
      have h0 := SlR.of_none hl
      subst h0
      exact G.retG Try.func124 Try.results124 nilS (by kernel_rfl) rfl fun w' hg => ⟨_, h, rfl, hg, SlR.nil⟩
  · refine G.runE tm 100 ?_
    refine G.boxOwn 0 5 0 (sz := 1) (m := 0) (bi := none) (e := 3) (cs := []) (vs := []) (by kernel_rfl) (by kernel_rfl) rfl (by decide) (by kernel_rfl) fun b => ?_
    refine G.runE tm 100 ?_
    refine G.appGh el30 0 (v := .slice (some ⟨b, 0, none⟩) 0 0) (m := 0) (xs := []) (x := v) (q := l.length) (d := some 7) (by kernel_rfl) (by kernel_rfl) (by kernel_rfl) hl (fun _ _ h => h.one) (by omega) (by omega) fun v' news hnews => ?_
    rw [Nat.zero_add, List.nil_append]
    refine G.runE tm 100 ?_
    refine G.freeze 0 (e := 3) (sz := 1) (v := v') (m := l.length) (xs := news) (by kernel_rfl) fun h' hle hf _ => ?_
    exact G.retG Try.func124 Try.results124 v' (by kernel_rfl) rfl fun w' hg => ⟨v', h', rfl, hg, SlR.of_freeze hf hnews rfl (by omega)⟩

def ownM (e : TypeId) (sz : Nat) (v : Value) (n : Nat) (xs : List Value) : Mem := ⟨[], [⟨e, sz, v, n, xs⟩]⟩

/-- A clone of entries, as a slice of the caller's own. -/
theorem f75_ok {v : Value} {l : List Ent} (hl : EntsR h v l) (hn : l.length ≤ 1000000) (hm : MemOk h w (ownM 34 9 nilS 0 [])) (hs : Sub h w) :
    Calls Try.prog 75 #[v] w fun e w' => ∃ v' xs, e = .returned v' ∧ Mend h w (ownM 34 9 nilS 0 []) h w' (ownM 34 9 v' l.length xs) ∧ ListR 9 (EntR h) xs l ∧ ∃ a c, v' = .slice a l.length c := by
  obtain ⟨ao, cp, hv⟩ := hl.isSlice
  refine Calls.enterM (ownM 34 9 nilS 0 []) [.atom (.sl v l.length)] Try.func75 (c := bodyOf Try.f75) (by kernel_rfl) Try.ntmps75 (by kernel_rfl) hm ⟨SlR.sv hl _ _, trivial⟩ (by simp) hs ?_
  refine G.runE tm 100 ?_
  refine G.sem (m := valS (do eqGuard .eql 22 (.tmp 3) (.const nilS) v nilS; binOp .eql 22 v nilS)) (d := some 4) (g := none) (by kernel_rfl) (by kernel_rfl) (.bool ao.isNone) (.atom (.bool ao.isNone)) (fun _ _ => rfl) (says_of fun w _ => run_valS (by rw [hv]; exact run_eql_nil Try.underlying22 _ _ _ _ _ w)) ?_
  refine G.runE tm 100 ?_
  refine G.cond ao.isNone (by kernel_rfl) (fun hc => ?_) (fun hc => ?_)
  · refine G.runE tm 100 ?_
    cases ao with
    | some a => simp at hc
    | none =>
      subst hv
      have h0 := SlR.of_none hl
      subst h0
      exact G.retM (ownM 34 9 nilS 0 []) Try.func75 Try.results75 nilS (by kernel_rfl) rfl (ownM 34 9 nilS 0 []) (nb := 0) (no := 1) (by kernel_rfl) (by kernel_rfl) rfl fun w' hg => ⟨nilS, [], rfl, hg, ListR.nil, none, 0, rfl⟩
  · refine G.runE tm 100 ?_
    refine G.boxOwn 0 5 0 (sz := 9) (m := 0) (bi := none) (e := 34) (cs := []) (vs := []) (by kernel_rfl) (by kernel_rfl) rfl (by decide) (by kernel_rfl) fun b => ?_
    refine G.runE tm 100 ?_
    refine G.appGh el22 0 (v := .slice (some ⟨b, 0, none⟩) 0 0) (m := 0) (xs := []) (x := v) (q := l.length) (d := some 7) (by kernel_rfl) (by kernel_rfl) (by kernel_rfl) hl (fun _ _ h => h.one) (by omega) (by omega) fun v' news hnews => ?_
    rw [Nat.zero_add, List.nil_append]
    refine G.runE tm 100 ?_
    refine G.ownForm 0 (e := 34) (sz := 9) (n := l.length) (v := v') (xs := news) (by kernel_rfl) fun hform => ?_
    exact G.retM (ownM 34 9 nilS 0 []) Try.func75 Try.results75 v' (by kernel_rfl) rfl (ownM 34 9 v' l.length news) (nb := 0) (no := 1) (by kernel_rfl) (by kernel_rfl) rfl fun w' hg => ⟨v', news, rfl, hg, hnews, hform⟩

def entSmall (e : Ent) : Prop := e.put.length ≤ 1000000 ∧ e.drop.length ≤ 1000000

theorem ListR.cell {h : GH} {xs : List Value} {l : List Ent} (hl : ListR 9 (EntR h) xs l) {i : Nat} {e : Ent} (he : l[i]? = some e) : ∃ p d, xs[i * 9 + 7]? = some p ∧ xs[i * 9 + 8]? = some d ∧ SlR h 5 RulR p e.put ∧ SlR h 1 IntR d e.drop := by
  obtain ⟨p, d, h3, hp, hd⟩ := hl.2 i e he
  refine ⟨p, d, ?_, ?_, hp, hd⟩
  · have := congrArg (fun l => l[7]?) h3
    simpa [List.getElem?_take, List.getElem?_drop] using this
  · have := congrArg (fun l => l[8]?) h3
    simpa [List.getElem?_take, List.getElem?_drop] using this

theorem rawp_ok (g off : Nat) : ∀ N β, SV1Ok N β (.atom (.raw (.pointer (some ⟨g, off, none⟩)))) (.pointer (some ⟨g, off, none⟩)) := fun _ _ => ⟨rfl, rfl⟩

set_option maxHeartbeats 4000000 in
theorem f77_ok {v : Value} {l : List Ent} (hl : EntsR h v l) (hb : ∀ e ∈ l, entSmall e) (hn : l.length ≤ 1000000) (hs : Sub h w) : Calls Try.prog 77 #[v] w fun e w' => ∃ v' h', e = .returned v' ∧ Grow h w h' w' ∧ EntsR h' v' l := by
  refine Calls.enter [.atom (.sl v l.length)] Try.func77 (c := bodyOf Try.f77) (by kernel_rfl) Try.ntmps77 ⟨SlR.sv hl _ _, trivial⟩ (by simp) hs ?_
  refine G.runE tm 100 ?_
  refine G.ownNil 0 34 9 ?_
  refine G.callM [] [0] [] (f := 75) (svs := [.atom (.sl v l.length)]) (d := some 6) (by kernel_rfl) (by kernel_rfl) (by kernel_rfl) (bs := []) (os := [⟨34, 9, nilS, 0, []⟩]) (by kernel_rfl) (by kernel_rfl) (by kernel_rfl)
    (fun h' x bs os => h' = h ∧ bs = [] ∧ (∃ a c, x = .slice a l.length c) ∧ ∃ xs, os = [⟨34, 9, x, l.length, xs⟩] ∧ ListR 9 (EntR h) xs l) (fun β w tmps l' hS hl' hsub hmem => ?_) ?_
  · obtain ⟨a1, rfl, ⟨rfl, -⟩⟩ := args1 hl'
    refine (f75_ok (hl.mono (hS.roLe [])) hn hmem hsub).mono ?_
    rintro e w' ⟨v', xs, rfl, hmend, hxs, hform⟩
    exact ⟨_, [], [⟨34, 9, v', l.length, xs⟩], _, rfl, rfl, rfl, hmend, hS.hideRo rfl, rfl, hform, xs, rfl, hxs.mono fun _ _ hh => by have := hS.hideRo (ro := []) rfl; rw [hideH_nil] at this; rw [← this]; exact hh⟩
  rintro h' x bs os ⟨rfl, rfl, ⟨ao, cp, hx⟩, xs, rfl, hxs⟩ -
  refine ⟨.one (.atom (.sl x l.length)), fun N β _ => ⟨rfl, ao, cp, hx⟩, ?_⟩
  refine G.runE tm 100 ?_
  refine G.loop (α := Nat × List Value)
    (fun y => ⟨[(3, .one (.atom (.sl x l.length))), (8, .one (.atom (.int .i64 l.length))), (9, .one (.atom (.int .i64 y.1)))], [], 0, [(0, ⟨34, 9, x, l.length, y.2⟩)]⟩)
    (fun y g => GLe h' g ∧ y.1 ≤ l.length ∧ ListR 9 (EntR g) y.2 l) (fun y => l.length - y.1) (0, xs) [3, 8, 9] [] 0 [0] (by kernel_rfl) (by kernel_rfl) (by kernel_rfl) ⟨GLe.refl _, Nat.zero_le _, hxs⟩ ?_
  rintro ⟨i, ys⟩ g ⟨hle, hi, hys⟩ IH
  simp only at hi hys
  refine G.runE tm 100 ?_
  refine G.cond (decide ((i : Int) < (l.length : Int))) (by kernel_rfl) (fun hc => ?_) (fun hc => ?_)
  · have hlt : i < l.length := by simpa using hc
    obtain ⟨e, he⟩ := get_of_lt hlt
    obtain ⟨hb1, hb2⟩ := hb e (List.mem_of_getElem? he)
    obtain ⟨p, d, hp7, hd8, hp, hd⟩ := hys.cell he
    refine G.ownBlk 0 (e := 34) (sz := 9) (n := l.length) (v := x) (xs := ys) (by kernel_rfl) (by omega) fun g0 cp hx => ?_
    subst hx
    have hidx : ∀ w, (Instr.indexAt 22 (.slice (some ⟨g0, 0, none⟩) l.length cp) (.int .i64 i)).run Try.prog w = .ok (.pointer (some ⟨g0, i * 9, none⟩)) w := run_idx Try.underlying22 z34 hlt
    refine G.runE tm 100 ?_
    refine G.draw [] tm (by kernel_rfl) (by kernel_rfl) ?_
    refine GD.sems [⟨6, ⟨valS (Instr.indexAt 22 (.slice (some ⟨g0, 0, none⟩) l.length cp) (.int .i64 i)), some 18, none⟩, .pointer (some ⟨g0, i * 9, none⟩), .atom (.raw (.pointer (some ⟨g0, i * 9, none⟩)))⟩,
      ⟨13, ⟨valS (Instr.indexAt 22 (.slice (some ⟨g0, 0, none⟩) l.length cp) (.int .i64 i)), some 25, none⟩, .pointer (some ⟨g0, i * 9, none⟩), .atom (.raw (.pointer (some ⟨g0, i * 9, none⟩)))⟩,
      ⟨18, ⟨valS (Instr.indexAt 22 (.slice (some ⟨g0, 0, none⟩) l.length cp) (.int .i64 i)), some 30, none⟩, .pointer (some ⟨g0, i * 9, none⟩), .atom (.raw (.pointer (some ⟨g0, i * 9, none⟩)))⟩,
      ⟨22, ⟨valS (Instr.indexAt 22 (.slice (some ⟨g0, 0, none⟩) l.length cp) (.int .i64 i)), some 33, none⟩, .pointer (some ⟨g0, i * 9, none⟩), .atom (.raw (.pointer (some ⟨g0, i * 9, none⟩)))⟩] (by kernel_rfl)
      (semRows_cons ⟨by kernel_rfl, rawp_ok _ _, fun w _ => run_valS (hidx w)⟩ (semRows_cons ⟨by kernel_rfl, rawp_ok _ _, fun w _ => run_valS (hidx w)⟩ (semRows_cons ⟨by kernel_rfl, rawp_ok _ _, fun w _ => run_valS (hidx w)⟩ (semRows_cons ⟨by kernel_rfl, rawp_ok _ _, fun w _ => run_valS (hidx w)⟩ semRows_nil)))) 20 (by kernel_rfl) ?_
    refine GD.two 9 16 (by kernel_rfl)
      (GDop.ownLd (T := 29) (g := g0) (off := i * 9 + 7) (d := some 21) (by kernel_rfl) (by kernel_rfl) ⟨_, Try.underlying29, rfl⟩ 0 (e := 34) (sz := 9) (n := l.length) (c := cp) (xs := ys) (by kernel_rfl) hp7 (.atom (.sl p e.put.length)) (hp.sv) (GD.two 10 16 (by kernel_rfl)
        (GDop.callP (f := 123) (svs := [.atom (.sl p e.put.length)]) (dst := some 22) (by kernel_rfl) [p] (by kernel_rfl) (by kernel_rfl) (by kernel_rfl) (by kernel_rfl) (fun h' v => SlR h' 5 RulR v e.put) (fun w hw => f123_ok hp hb1 hw) fun g1 p1 hp1 hle1 => ⟨.one (.atom (.sl p1 e.put.length)), fun N β _ => hp1.sv N β, GD.one 16 (by kernel_rfl) (GDop.ownLd (T := 30) (g := g0) (off := i * 9 + 8) (d := some 28) (by kernel_rfl) (by kernel_rfl) ⟨_, Try.underlying30, rfl⟩ 0 (e := 34) (sz := 9) (n := l.length) (c := cp) (xs := ys) (by kernel_rfl) hd8 (.atom (.sl d e.drop.length)) (hd.sv) (GD.one 17 (by kernel_rfl) (GDop.callP (f := 124) (svs := [.atom (.sl d e.drop.length)]) (dst := some 29) (by kernel_rfl) [d] (by kernel_rfl) (by kernel_rfl) (by kernel_rfl) (by kernel_rfl) (fun h' v => SlR h' 1 IntR v e.drop) (fun w hw => f124_ok (hd.mono hle1 fun _ _ h => h) hb2 hw) fun g2 d1 hd1 hle2 => ⟨.one (.atom (.sl d1 e.drop.length)), fun N β _ => hd1.sv N β, ?_⟩)))⟩)
        (GDop.ownLd (T := 30) (g := g0) (off := i * 9 + 8) (d := some 28) (by kernel_rfl) (by kernel_rfl) ⟨_, Try.underlying30, rfl⟩ 0 (e := 34) (sz := 9) (n := l.length) (c := cp) (xs := ys) (by kernel_rfl) hd8 (.atom (.sl d e.drop.length)) (hd.sv) (GD.one 10 (by kernel_rfl) (GDop.callP (f := 123) (svs := [.atom (.sl p e.put.length)]) (dst := some 22) (by kernel_rfl) [p] (by kernel_rfl) (by kernel_rfl) (by kernel_rfl) (by kernel_rfl) (fun h' v => SlR h' 5 RulR v e.put) (fun w hw => f123_ok hp hb1 hw) fun g1 p1 hp1 hle1 => ⟨.one (.atom (.sl p1 e.put.length)), fun N β _ => hp1.sv N β, GD.one 17 (by kernel_rfl) (GDop.callP (f := 124) (svs := [.atom (.sl d e.drop.length)]) (dst := some 29) (by kernel_rfl) [d] (by kernel_rfl) (by kernel_rfl) (by kernel_rfl) (by kernel_rfl) (fun h' v => SlR h' 1 IntR v e.drop) (fun w hw => f124_ok (hd.mono hle1 fun _ _ h => h) hb2 hw) fun g2 d1 hd1 hle2 => ⟨.one (.atom (.sl d1 e.drop.length)), fun N β _ => hd1.sv N β, ?_⟩)⟩)))))
      (GDop.ownLd (T := 30) (g := g0) (off := i * 9 + 8) (d := some 28) (by kernel_rfl) (by kernel_rfl) ⟨_, Try.underlying30, rfl⟩ 0 (e := 34) (sz := 9) (n := l.length) (c := cp) (xs := ys) (by kernel_rfl) hd8 (.atom (.sl d e.drop.length)) (hd.sv) (GD.one 9 (by kernel_rfl) (GDop.ownLd (T := 29) (g := g0) (off := i * 9 + 7) (d := some 21) (by kernel_rfl) (by kernel_rfl) ⟨_, Try.underlying29, rfl⟩ 0 (e := 34) (sz := 9) (n := l.length) (c := cp) (xs := ys) (by kernel_rfl) hp7 (.atom (.sl p e.put.length)) (hp.sv) (GD.one 10 (by kernel_rfl) (GDop.callP (f := 123) (svs := [.atom (.sl p e.put.length)]) (dst := some 22) (by kernel_rfl) [p] (by kernel_rfl) (by kernel_rfl) (by kernel_rfl) (by kernel_rfl) (fun h' v => SlR h' 5 RulR v e.put) (fun w hw => f123_ok hp hb1 hw) fun g1 p1 hp1 hle1 => ⟨.one (.atom (.sl p1 e.put.length)), fun N β _ => hp1.sv N β, GD.one 17 (by kernel_rfl) (GDop.callP (f := 124) (svs := [.atom (.sl d e.drop.length)]) (dst := some 29) (by kernel_rfl) [d] (by kernel_rfl) (by kernel_rfl) (by kernel_rfl) (by kernel_rfl) (fun h' v => SlR h' 1 IntR v e.drop) (fun w hw => f124_ok (hd.mono hle1 fun _ _ h => h) hb2 hw) fun g2 d1 hd1 hle2 => ⟨.one (.atom (.sl d1 e.drop.length)), fun N β _ => hd1.sv N β, ?_⟩)⟩)))))
    all_goals
      refine GD.sems [⟨18, ⟨valS (Instr.indexAt 22 (.slice (some ⟨g0, 0, none⟩) l.length cp) (.int .i64 i)), some 30, none⟩, .pointer (some ⟨g0, i * 9, none⟩), .atom (.raw (.pointer (some ⟨g0, i * 9, none⟩)))⟩, ⟨22, ⟨valS (Instr.indexAt 22 (.slice (some ⟨g0, 0, none⟩) l.length cp) (.int .i64 i)), some 33, none⟩, .pointer (some ⟨g0, i * 9, none⟩), .atom (.raw (.pointer (some ⟨g0, i * 9, none⟩)))⟩] (by kernel_rfl)
        (semRows_cons ⟨by kernel_rfl, rawp_ok _ _, fun w _ => run_valS (hidx w)⟩ (semRows_cons ⟨by kernel_rfl, rawp_ok _ _, fun w _ => run_valS (hidx w)⟩ semRows_nil)) 20 (by kernel_rfl) ?_
      refine GD.one 21 (by kernel_rfl) (GDop.ownSt (T := 29) (g := g0) (off := i * 9 + 7) (u := p1) (by kernel_rfl) (by kernel_rfl) (by obtain ⟨a, c, rfl⟩ := hp1.isSlice; rfl) 0 (e := 34) (sz := 9) (n := l.length) (c := cp) (xs := ys) (by kernel_rfl) (by have := hys.1; omega) ?_)
      refine GD.sems [⟨22, ⟨valS (Instr.indexAt 22 (.slice (some ⟨g0, 0, none⟩) l.length cp) (.int .i64 i)), some 33, none⟩, .pointer (some ⟨g0, i * 9, none⟩), .atom (.raw (.pointer (some ⟨g0, i * 9, none⟩)))⟩] (by kernel_rfl)
        (semRows_cons ⟨by kernel_rfl, rawp_ok _ _, fun w _ => run_valS (hidx w)⟩ semRows_nil) 20 (by kernel_rfl) ?_
      refine GD.one 25 (by kernel_rfl) (GDop.ownSt (T := 30) (g := g0) (off := i * 9 + 8) (u := d1) (by kernel_rfl) (by kernel_rfl) (by obtain ⟨a, c, rfl⟩ := hd1.isSlice; rfl) 0 (e := 34) (sz := 9) (n := l.length) (c := cp) (xs := ys.set (i * 9 + 7) p1) (by kernel_rfl) (by have := hys.1; rw [List.length_set]; omega) ?_)
      refine GD.fin (by kernel_rfl) ?_
      refine G.runE tm 100 ?_
      refine G.reint (k := .i64) 9 (by kernel_rfl) (wrap_succ hlt (by omega)) ?_
      exact G.back (by kernel_rfl) [3, 8, 9] [] 0 [0] (by kernel_rfl) (by kernel_rfl) (IH (i + 1, (ys.set (i * 9 + 7) p1).set (i * 9 + 8) d1) _ ⟨hle.trans (hle1.trans hle2), hlt, (hys.mono fun _ _ h => h.mono (hle1.trans hle2)).setEnt he (hp1.mono hle2 fun _ _ h => h) hd1⟩ (by simp only; omega))
  · obtain rfl : i = l.length := by simp at hc; omega
    refine G.runE tm 100 ?_
    refine G.freeze 0 (e := 34) (sz := 9) (v := x) (m := l.length) (xs := ys) (by kernel_rfl) fun h' hle' hf _ => ?_
    exact G.retG Try.func77 Try.results77 x (by kernel_rfl) rfl fun w' hg => ⟨x, h', rfl, hg, SlR.of_freeze hf (hys.mono fun _ _ h => h.mono hle') rfl (by omega)⟩

end w

section cuts
variable {α : Type} {P : Program} {T E : TypeId} {h : GH} {sz : Nat} {R : List Value → α → Prop} {v : Value} {l : List α}

theorem addr_map0 (ao : Option Addr) : ao.map (fun x => x.add 0) = ao := by cases ao <;> simp [Addr.add]

/-- A slice that is full. -/
theorem SlR.clip (hs : SlR h sz R v l) (hu : P.underlying T = some (.slice E)) (hz : sizeP P E = some sz) :
    ∃ v', SlR h sz R v' l ∧ (v' = nilS ∨ ∃ a, v' = .slice (some a) l.length l.length) ∧ ∀ w, (Instr.sliceAt T v none (some (.int .i64 l.length)) (some (.int .i64 l.length))).run P w = .ok v' w := by
  obtain ⟨ao, cap, rfl, hc, hm, h4⟩ := hs
  have hb1 : (0 : Int) ≤ (l.length : Int) ∧ (l.length : Int) ≤ (cap : Int) := ⟨by omega, by omega⟩
  refine ⟨.slice ao l.length l.length, ⟨ao, _, rfl, Nat.le_refl _, hm, h4⟩, ?_, fun w => ?_⟩
  · cases ao with
    | some a => exact .inr ⟨a, rfl⟩
    | none =>
      left
      rcases h4 with h4 | ⟨b, off, arr, T', fr, h5, -⟩
      · subst h4; rfl
      · cases h5
  · by_cases h0 : l.length = 0
    · simp [Instr.sliceAt, run_underlying hu, Instr.slice, Instr.sliceBounds, Instr.sliceBound, asIntOf, run_sizeP hz, h0]
    · simp [Instr.sliceAt, run_underlying hu, Instr.slice, Instr.sliceBounds, Instr.sliceBound, asIntOf, hc, run_sizeP hz, addr_map0]

/-- The first so many. -/
theorem SlR.head (hs : SlR h sz R v l) (hu : P.underlying T = some (.slice E)) (hz : sizeP P E = some sz) {k : Nat} (hk : k ≤ l.length) :
    ∃ v', SlR h sz R v' (l.take k) ∧ ∀ w, (Instr.sliceAt T v none (some (.int .i64 k)) none).run P w = .ok v' w := by
  obtain ⟨ao, cap, rfl, hc, hm, h4⟩ := hs
  have hlen : (l.take k).length = k := by simp; omega
  refine ⟨.slice ao k cap, ⟨ao, cap, by rw [hlen], by rw [hlen]; omega, by rw [hlen]; omega, ?_⟩, fun w => ?_⟩
  · by_cases he : k = 0
    · left; subst he; simp
    · right
      rcases h4 with rfl | ⟨b, off, arr, T', fr, rfl, e2, e3, e4⟩
      · simp at hk; omega
      · refine ⟨b, off, arr, T', fr, rfl, e2, ?_, fun i x hx => ?_⟩
        · rw [hlen]
          have : k * sz ≤ l.length * sz := Nat.mul_le_mul_right _ hk
          omega
        · have hi' : i < k := by rw [← hlen]; exact (List.getElem?_eq_some_iff.1 hx).1
          rw [List.getElem?_take, if_pos hi'] at hx
          exact e4 i x hx
  · have hcap : k ≤ cap := by omega
    by_cases h0 : cap = 0
    · have : k = 0 := by omega
      simp [Instr.sliceAt, run_underlying hu, Instr.slice, Instr.sliceBounds, Instr.sliceBound, asIntOf, run_sizeP hz, h0, this]
    · simp [Instr.sliceAt, run_underlying hu, Instr.slice, Instr.sliceBounds, Instr.sliceBound, asIntOf, hcap, run_sizeP hz, addr_map0]

/-- All behind the first so many. -/
theorem SlR.tail (hs : SlR h sz R v l) (hu : P.underlying T = some (.slice E)) (hz : sizeP P E = some sz) {k : Nat} (hk : k ≤ l.length) :
    ∃ v', SlR h sz R v' (l.drop k) ∧ ∀ w, (Instr.sliceAt T v (some (.int .i64 k)) none none).run P w = .ok v' w := by
  obtain ⟨v', h1, h2⟩ := hs.cut hu hz hk (Nat.le_refl _)
  obtain ⟨ao, cap, rfl, hc, hm, h4⟩ := hs
  refine ⟨v', by rw [List.take_of_length_le (by simp)] at h1; exact h1, fun w => ?_⟩
  rw [← h2 w]
  simp [Instr.sliceAt, run_underlying hu, Instr.slice, Instr.sliceBounds, Instr.sliceBound, asIntOf, hk, hc]
end cuts

section w
variable {h : GH} {w : World}

theorem f100_ok {v : Value} {l : List Ent} (hl : EntsR h v l) (hs : Sub h w) : Calls Try.prog 100 #[v] w fun e w' => ∃ v', e = .returned v' ∧ Below w.heap.size w w' ∧ EntsR h v' l ∧ (v' = nilS ∨ ∃ a, v' = .slice (some a) l.length l.length) := by
  obtain ⟨v', h1, h2, h3⟩ := SlR.clip hl Try.underlying22 z34
  refine Calls.enter [.atom (.sl v l.length)] Try.func100 (c := bodyOf Try.f100) (by kernel_rfl) Try.ntmps100 ⟨SlR.sv hl _ _, trivial⟩ (by simp) hs ?_
  refine G.runE tm 100 ?_
  refine G.sem (m := valS (Instr.sliceAt 22 v none (some (.int .i64 l.length)) (some (.int .i64 l.length)))) (d := some 8) (g := none) (by kernel_rfl) (by kernel_rfl) v' (.atom (.sl v' l.length)) (SlR.sv h1) (says_of fun w _ => run_valS (h3 w)) ?_
  refine G.runE tm 100 ?_
  exact G.ret Try.func100 Try.results100 v' (by kernel_rfl) fun w' hf _ => ⟨v', rfl, hf.below, h1, h2⟩

def cfgRight (n id t : Int) : Bool := (n == 3 || n == 5 || n == 7) && decide (id ≥ 0) && decide (id < n) && decide (t ≥ 2) && decide (t ≤ 100)

theorem f73_ok {n id t : Int} (hs : Sub h w) : Calls Try.prog 73 #[.agg #[.int .i64 n, .int .i64 id, .int .i64 t]] w fun e w' => e = .returned (.bool (cfgRight n id t)) ∧ Below w.heap.size w w' := by
  refine Calls.enter [.agg [.int .i64 n, .int .i64 id, .int .i64 t]] Try.func73 (c := bodyOf Try.f73) (by kernel_rfl) Try.ntmps73 ⟨⟨_, rfl, rfl, rfl, rfl, trivial⟩, trivial⟩ (by simp) hs ?_
  refine G.runE tm 100 ?_
  exact G.ret Try.func73 Try.results73 (.bool (cfgRight n id t)) (by kernel_rfl) fun w' hf _ => ⟨rfl, hf.below⟩

def staRight (s : Sta) : Bool := decide (s.view ≥ 0) && decide (s.view ≤ 1099511627776) && decide (s.normal ≥ 0) && decide (s.normal ≤ s.view) && decide ((s.log.length : Int) ≤ 64) && decide (s.commit ≥ 0) && decide (s.commit ≤ (s.log.length : Int)) && decide (s.active ≥ 0) && decide (s.active ≤ 64) && !(s.log.any fun e => !entRight e)

theorem f122_ok {p d : Value} {e : Ent} (hp : SlR h 5 RulR p e.put) (hd : SlR h 1 IntR d e.drop) (hs : Sub h w) :
    Calls Try.prog 122 #[entV e p d] w fun e' w' => e' = .returned (.bool (!entRight e)) ∧ Below w.heap.size w w' := by
  refine Calls.enter [.agg (entC e p d)] Try.func122 (c := bodyOf Try.f122) (by kernel_rfl) Try.ntmps122 ⟨entC_ok hp hd _ _, trivial⟩ (by simp) hs ?_
  refine G.runE tm 100 ?_
  refine G.callV (f := 18) (svs := [.agg (entC e p d)]) (d := some 4) (by kernel_rfl) [entV e p d] (.bool (entRight e)) (by kernel_rfl) (by kernel_rfl) (by kernel_rfl) (fun w hs => f18_ok hp hd hs) ?_
  refine G.runE tm 100 ?_
  exact G.ret Try.func122 Try.results122 (.bool (!entRight e)) (by kernel_rfl) fun w' hf _ => ⟨rfl, hf.below⟩

theorem f74_ok {s : Sta} {p : Value} (hp : EntsR h p s.log) (hs : Sub h w) : Calls Try.prog 74 #[staV s p] w fun e w' => e = .returned (.bool (staRight s)) ∧ Below w.heap.size w w' := by
  refine Calls.enter [.agg (staC s p)] Try.func74 (c := bodyOf Try.f74) (by kernel_rfl) Try.ntmps74 ⟨staC_ok hp _ _, trivial⟩ (by simp) hs ?_
  refine G.runE tm 100 ?_
  refine G.callGV (f := 121) (svs := [.atom (.sl p s.log.length), .atom (.raw (fnV 122))]) (d := 55) (tg := 52) (want := true) (by kernel_rfl) [p, fnV 122] (.bool (s.log.any fun e => !entRight e)) (by kernel_rfl) (by kernel_rfl) (by kernel_rfl)
    (says_of fun w hs => f121_ok hp hs 122 (by kernel_rfl) (fun e => !entRight e) fun r a b w ha hb hs => f122_ok ha hb hs) ?_
  refine G.runE tm 100 ?_
  exact G.ret Try.func74 Try.results74 (.bool (staRight s)) (by kernel_rfl) fun w' hf _ => ⟨rfl, hf.below⟩
end w
end Go.Proofs.Ytkjahaoobdbffaa

/- The replica in memory; its methods that only read. -/
namespace Go.Proofs.Ytkjahaoobdbffaa
open Go Go.RowKit
attribute [local irreducible] G GD GDop

structure RMem where
  lv : Value
  ov : Value
  oxs : List Value
  a : Obj
  s : Obj
  c : Obj

structure Adr where
  rb : Nat
  ab : Nat
  sb : Nat
  cb : Nat

def IntV (v : Value) (n : Int) : Prop := v = .int .i64 n
def BoolV (v : Value) (b : Bool) : Prop := v = .bool b
def MsgV (h : GH) (v : Value) (m : Msg) : Prop := ∃ p, v = msgV m p ∧ EntsR h p m.log

def repC (A : Adr) (r : Rep) (x : RMem) : List Cell :=
  [.int .i64 (Int.ofNat (r.n0 + 1)), .int .i64 r.id, .int .i64 r.timeout, .int .i64 r.view, .int .i64 r.normal, .int .i64 r.commit, .int .i64 r.active, .sl x.lv r.log.length, .bool r.changing,
    .raw (.map (some A.ab)), .raw (.map (some A.sb)), .raw (.map (some A.cb)), .bool r.said, .int .i64 r.quiet, .sl x.ov r.out.length]

def repM (A : Adr) (r : Rep) (x : RMem) : Mem :=
  ⟨[(A.rb, .lit 135 (repC A r x)), (A.ab, .obj x.a), (A.sb, .obj x.s), (A.cb, .obj x.c)], [⟨45, 8, x.ov, r.out.length, x.oxs⟩]⟩

structure RepR (h : GH) (r : Rep) (x : RMem) : Prop where
  log : EntsR h x.lv r.log
  out : ListR 8 (MsgR h) x.oxs r.out
  ov : ∃ a c, x.ov = .slice a r.out.length c
  acks : IMap IntV x.a r.acks
  starts : IMap BoolV x.s r.starts
  changes : IMap (MsgV h) x.c r.changes

theorem MsgV.mono {h h' : GH} {v : Value} {m : Msg} (hm : MsgV h v m) (hle : GLe h h') : MsgV h' v m := by
  obtain ⟨p, h1, h2⟩ := hm; exact ⟨p, h1, h2.mono hle⟩

theorem RepR.mono {h h' : GH} {r : Rep} {x : RMem} (hr : RepR h r x) (hle : GLe h h') : RepR h' r x :=
  ⟨hr.log.mono hle, hr.out.mono fun _ _ hh => hh.mono hle, hr.ov, hr.acks, hr.starts, hr.changes.mono fun _ _ hh => hh.mono hle⟩

/-- A receiver that is only read. -/
structure RoR (h : GH) (rb : Nat) (cs : List Cell) : Prop where
  blk : ∃ arr T fr N β, h rb = some (.cells arr T fr) ∧ CellsOk N β cs arr.toList

theorem RoR.cell {h : GH} {rb : Nat} {cs : List Cell} (hr : RoR h rb cs) {i : Nat} {c : Cell} (hc : cs[i]? = some c) : ∃ u, (∃ N β, CellOk N β c u) ∧ ∀ (E : TypeId) (d : TypeDesc), Try.prog.underlying E = some d → isAggD d = false → ∀ w, Sub h w → (Instr.loadAt E (.pointer (some ⟨rb, i, none⟩))).run Try.prog w = .ok u w := by
  obtain ⟨arr, T, fr, N, β, h1, h2⟩ := hr.blk
  obtain ⟨u, h3, h4⟩ := h2.get hc
  exact ⟨u, ⟨N, β, h4⟩, fun E d hd hag w hw => loadCell hd hag h1 (by simpa using h3) hw⟩

theorem RoR.int {h : GH} {rb : Nat} {cs : List Cell} (hr : RoR h rb cs) {i : Nat} {n : Int} (hc : cs[i]? = some (.int .i64 n)) (w : World) (hw : Sub h w) : (Instr.loadAt 3 (.pointer (some ⟨rb, i, none⟩))).run Try.prog w = .ok (.int .i64 n) w := by
  obtain ⟨u, ⟨N, β, h1⟩, h2⟩ := hr.cell hc
  simp only [CellOk] at h1
  subst h1
  exact h2 3 _ Try.underlying3 rfl w hw

theorem RoR.bool {h : GH} {rb : Nat} {cs : List Cell} (hr : RoR h rb cs) {i : Nat} {b : Bool} (hc : cs[i]? = some (.bool b)) (w : World) (hw : Sub h w) : (Instr.loadAt 4 (.pointer (some ⟨rb, i, none⟩))).run Try.prog w = .ok (.bool b) w := by
  obtain ⟨u, ⟨N, β, h1⟩, h2⟩ := hr.cell hc
  simp only [CellOk] at h1
  subst h1
  exact h2 4 _ Try.underlying4 rfl w hw

theorem RoR.sl {h : GH} {rb : Nat} {cs : List Cell} (hr : RoR h rb cs) {i n : Nat} {v : Value} (hc : cs[i]? = some (.sl v n)) : (∃ a c, v = .slice a n c) ∧ ∀ w, Sub h w → (Instr.loadAt 22 (.pointer (some ⟨rb, i, none⟩))).run Try.prog w = .ok v w := by
  obtain ⟨u, ⟨N, β, h1⟩, h2⟩ := hr.cell hc
  simp only [CellOk] at h1
  obtain ⟨rfl, h1⟩ := h1
  exact ⟨h1, fun w hw => h2 22 _ Try.underlying22 rfl w hw⟩

theorem run_rem {T : TypeId} (x y : Operand) (a k : Int) (hk : k ≠ 0) (w : World) :
    (do eqGuard .rem T x y (.int .i64 a) (.int .i64 k); binOp .rem T (.int .i64 a) (.int .i64 k)).run Try.prog w = .ok (.int .i64 (a.tmod k)) w := by
  simp [run_eqGuard_int, binOp, Op.intDiv, hk]

section ro
variable {h : GH} {w : World} {rb : Nat} {cs : List Cell}

theorem f99_ok {v : Value} {n : Nat} (hr : RoR h rb cs) (hc : cs[7]? = some (.sl v n)) (hs : Sub h w) : Calls Try.prog 99 #[.pointer (some ⟨rb, 0, none⟩)] w fun e w' => e = .returned (.int .i64 n) ∧ Below w.heap.size w w' := by
  obtain ⟨hf, hrun⟩ := hr.sl hc
  refine Calls.enter [.atom (.raw (.pointer (some ⟨rb, 0, none⟩)))] Try.func99 (c := bodyOf Try.f99) (by kernel_rfl) Try.ntmps99 ⟨⟨rfl, rfl⟩, trivial⟩ (by simp) hs ?_
  refine G.runE tm 100 ?_
  refine G.sem (m := valS (Instr.loadAt 22 (.pointer (some ⟨rb, 7, none⟩)))) (d := some 7) (g := none) (by kernel_rfl) (by kernel_rfl) v (.atom (.sl v n)) (fun _ _ => ⟨rfl, hf⟩) (says_of fun w hw => run_valS (hrun w hw)) ?_
  refine G.runE tm 100 ?_
  exact G.ret Try.func99 Try.results99 (.int .i64 n) (by kernel_rfl) fun w' hf _ => ⟨rfl, hf.below⟩

theorem f78_ok {n v : Int} (hr : RoR h rb cs) (hc : cs[0]? = some (.int .i64 n)) (hn : n ≠ 0) (hs : Sub h w) : Calls Try.prog 78 #[.pointer (some ⟨rb, 0, none⟩), .int .i64 v] w fun e w' => e = .returned (.int .i64 (v.tmod n)) ∧ Below w.heap.size w w' := by
  refine Calls.enter [.atom (.raw (.pointer (some ⟨rb, 0, none⟩))), .atom (.int .i64 v)] Try.func78 (c := bodyOf Try.f78) (by kernel_rfl) Try.ntmps78 ⟨⟨rfl, rfl⟩, rfl, trivial⟩ (by simp) hs ?_
  refine G.runE tm 100 ?_
  refine G.sem (m := valS (Instr.loadAt 3 (.pointer (some ⟨rb, 0, none⟩)))) (d := some 10) (g := none) (by kernel_rfl) (by kernel_rfl) (.int .i64 n) (.atom (.int .i64 n)) (fun _ _ => rfl) (says_of fun w hw => run_valS (hr.int hc w hw)) ?_
  refine G.sem (m := valS (do eqGuard .rem 3 (.tmp 5) (.tmp 10) (.int .i64 v) (.int .i64 n); binOp .rem 3 (.int .i64 v) (.int .i64 n))) (d := some 11) (g := none) (by kernel_rfl) (by kernel_rfl) (.int .i64 (v.tmod n)) (.atom (.int .i64 (v.tmod n))) (fun _ _ => rfl) (says_of fun w _ => run_valS (run_rem _ _ _ _ hn w)) ?_
  refine G.runE tm 100 ?_
  exact G.ret Try.func78 Try.results78 (.int .i64 (v.tmod n)) (by kernel_rfl) fun w' hf _ => ⟨rfl, hf.below⟩

theorem f126_ok {n : Int} (hr : RoR h rb cs) (hc : cs[0]? = some (.int .i64 n)) (hs : Sub h w) : Calls Try.prog 126 #[.pointer (some ⟨rb, 0, none⟩)] w fun e w' => e = .returned (.int .i64 (IntKind.i64.wrap (IntKind.i64.wrap (n.tdiv 2) + 1))) ∧ Below w.heap.size w w' := by
  refine Calls.enter [.atom (.raw (.pointer (some ⟨rb, 0, none⟩)))] Try.func126 (c := bodyOf Try.f126) (by kernel_rfl) Try.ntmps126 ⟨⟨rfl, rfl⟩, trivial⟩ (by simp) hs ?_
  refine G.runE tm 100 ?_
  refine G.sem (m := valS (Instr.loadAt 3 (.pointer (some ⟨rb, 0, none⟩)))) (d := some 7) (g := none) (by kernel_rfl) (by kernel_rfl) (.int .i64 n) (.atom (.int .i64 n)) (fun _ _ => rfl) (says_of fun w hw => run_valS (hr.int hc w hw)) ?_
  refine G.runE tm 100 ?_
  exact G.ret Try.func126 Try.results126 (.int .i64 (IntKind.i64.wrap (IntKind.i64.wrap (n.tdiv 2) + 1))) (by kernel_rfl) fun w' hf _ => ⟨rfl, hf.below⟩

def roleI (ch : Bool) (n v id : Int) : Int := bif ch then 2 else bif (v.tmod n == id) then 1 else 0

theorem f26_ok {n v id : Int} {ch : Bool} (hr : RoR h rb cs) (h0 : cs[0]? = some (.int .i64 n)) (h1 : cs[1]? = some (.int .i64 id)) (h3 : cs[3]? = some (.int .i64 v)) (h8 : cs[8]? = some (.bool ch)) (hn : n ≠ 0) (hs : Sub h w) :
    Calls Try.prog 26 #[.pointer (some ⟨rb, 0, none⟩)] w fun e w' => e = .returned (.int .i64 (roleI ch n v id)) ∧ Below w.heap.size w w' := by
  refine Calls.enter [.atom (.raw (.pointer (some ⟨rb, 0, none⟩)))] Try.func26 (c := bodyOf Try.f26) (by kernel_rfl) Try.ntmps26 ⟨⟨rfl, rfl⟩, trivial⟩ (by simp) hs ?_
  refine G.runE tm 100 ?_
  refine G.sem (m := valS (Instr.loadAt 4 (.pointer (some ⟨rb, 8, none⟩)))) (d := some 7) (g := none) (by kernel_rfl) (by kernel_rfl) (.bool ch) (.atom (.bool ch)) (fun _ _ => rfl) (says_of fun w hw => run_valS (hr.bool h8 w hw)) ?_
  refine G.runE tm 100 ?_
  refine G.cond ch (by kernel_rfl) (fun hc => ?_) (fun hc => ?_)
  · subst hc
    refine G.runE tm 100 ?_
    exact G.ret Try.func26 Try.results26 (.int .i64 2) (by kernel_rfl) fun w' hf _ => ⟨rfl, hf.below⟩
  subst hc
  refine G.runE tm 100 ?_
  refine G.draw [] tm (by kernel_rfl) (by kernel_rfl) ?_
  refine GD.sems [⟨5, ⟨valS (Instr.loadAt 3 (.pointer (some ⟨rb, 3, none⟩))), some 14, none⟩, .int .i64 v, .atom (.int .i64 v)⟩, ⟨11, ⟨valS (Instr.loadAt 3 (.pointer (some ⟨rb, 1, none⟩))), some 20, none⟩, .int .i64 id, .atom (.int .i64 id)⟩] (by kernel_rfl)
    (semRows_cons ⟨by kernel_rfl, fun _ _ => rfl, fun w hw => run_valS (hr.int h3 w hw)⟩ (semRows_cons ⟨by kernel_rfl, fun _ _ => rfl, fun w hw => run_valS (hr.int h1 w hw)⟩ semRows_nil)) 20 (by kernel_rfl) ?_
  refine GD.one 6 (by kernel_rfl) (GDop.callV (f := 78) (svs := [.atom (.raw (.pointer (some ⟨rb, 0, none⟩))), .atom (.int .i64 v)]) (dst := some 15) (by kernel_rfl) [.pointer (some ⟨rb, 0, none⟩), .int .i64 v] (.int .i64 (v.tmod n)) (by kernel_rfl) (by kernel_rfl) (by kernel_rfl) (by kernel_rfl) (fun w hw => f78_ok hr h0 hn hw) ?_)
  refine GD.run (by kernel_rfl) 50 ?_
  refine GD.fin (by kernel_rfl) ?_
  refine G.runE tm 100 ?_
  refine G.cond (v.tmod n == id) (by kernel_rfl) (fun hc => ?_) (fun hc => ?_)
  · refine G.runE tm 100 ?_
    exact G.ret Try.func26 Try.results26 (.int .i64 1) (by kernel_rfl) fun w' hf _ => ⟨by simp [roleI, hc], hf.below⟩
  · refine G.runE tm 100 ?_
    exact G.ret Try.func26 Try.results26 (.int .i64 0) (by kernel_rfl) fun w' hf _ => ⟨by simp [roleI, hc], hf.below⟩

def toldC (kind : Int) (n : Nat) (commit : Int) (v : Value) : List Cell := [.int .i64 kind, .int .i64 0, .int .i64 0, .int .i64 0, .int .i64 n, .int .i64 commit, .int .i64 0, .sl v n]
def toldV (kind : Int) (n : Nat) (commit : Int) (v : Value) : Value := .agg #[.int .i64 kind, .int .i64 0, .int .i64 0, .int .i64 0, .int .i64 n, .int .i64 commit, .int .i64 0, v]

theorem f84_ok {k : Int} {n : Nat} {c : Int} {v : Value} (hr : RoR h rb cs) (h5 : cs[5]? = some (.int .i64 c)) (h7 : cs[7]? = some (.sl v n)) (hs : Sub h w) :
    Calls Try.prog 84 #[.pointer (some ⟨rb, 0, none⟩), .int .i64 k] w fun e w' => e = .returned (toldV k n c v) ∧ Below w.heap.size w w' := by
  obtain ⟨hf, hrun⟩ := hr.sl h7
  refine Calls.enter [.atom (.raw (.pointer (some ⟨rb, 0, none⟩))), .atom (.int .i64 k)] Try.func84 (c := bodyOf Try.f84) (by kernel_rfl) Try.ntmps84 ⟨⟨rfl, rfl⟩, rfl, trivial⟩ (by simp) hs ?_
  refine G.runE tm 100 ?_
  refine G.draw [] tm (by kernel_rfl) (by kernel_rfl) ?_
  refine GD.sems [⟨7, ⟨valS (Instr.loadAt 3 (.pointer (some ⟨rb, 5, none⟩))), some 12, none⟩, .int .i64 c, .atom (.int .i64 c)⟩, ⟨12, ⟨valS (Instr.loadAt 22 (.pointer (some ⟨rb, 7, none⟩))), some 17, none⟩, v, .atom (.sl v n)⟩] (by kernel_rfl)
    (semRows_cons ⟨by kernel_rfl, fun _ _ => rfl, fun w hw => run_valS (hr.int h5 w hw)⟩ (semRows_cons ⟨by kernel_rfl, fun _ _ => ⟨rfl, hf⟩, fun w hw => run_valS (hrun w hw)⟩ semRows_nil)) 20 (by kernel_rfl) ?_
  refine GD.one 2 (by kernel_rfl) (GDop.callV (f := 99) (svs := [.atom (.raw (.pointer (some ⟨rb, 0, none⟩)))]) (dst := some 7) (by kernel_rfl) [.pointer (some ⟨rb, 0, none⟩)] (.int .i64 n) (by kernel_rfl) (by kernel_rfl) (by kernel_rfl) (by kernel_rfl) (fun w hw => f99_ok hr h7 hw) ?_)
  refine GD.run (by kernel_rfl) 50 ?_
  refine GD.fin (by kernel_rfl) ?_
  refine G.runE tm 100 ?_
  exact G.ret Try.func84 Try.results84 (toldV k n c v) (by kernel_rfl) fun w' hf _ => ⟨rfl, hf.below⟩
end ro

/-! ### What these methods answer, for the runner -/

def litAt (s : S) : SV1 → Option (List Cell)
  | .atom (.ptr k 0) => match bx k s.boxes with
    | some ⟨_, .lit _ cs⟩ => some cs
    | _ => none
  | _ => none

def g99 (s : S) : List SV1 → Option SV1
  | [p] => match litAt s p with
    | some cs => match (cs[7]? : Option Cell) with
      | some (.sl _ n) => some (.atom (.int .i64 n))
      | _ => none
    | none => none
  | _ => none
def g78 (s : S) : List SV1 → Option SV1
  | [p, .atom (.int .i64 v)] => match litAt s p with
    | some cs => match (cs[0]? : Option Cell) with
      | some (.int .i64 (.ofNat (n + 1))) => some (.atom (.int .i64 (v.tmod (.ofNat (n + 1)))))
      | _ => none
    | none => none
  | _ => none
def g126 (s : S) : List SV1 → Option SV1
  | [p] => match litAt s p with
    | some cs => match (cs[0]? : Option Cell) with
      | some (.int .i64 n) => some (.atom (.int .i64 (IntKind.i64.wrap (IntKind.i64.wrap (n.tdiv 2) + 1))))
      | _ => none
    | none => none
  | _ => none
def g26 (s : S) : List SV1 → Option SV1
  | [p] => match litAt s p with
    | some cs => match (cs[0]? : Option Cell), (cs[1]? : Option Cell), (cs[3]? : Option Cell), (cs[8]? : Option Cell) with
      | some (.int .i64 (.ofNat (n + 1))), some (.int .i64 id), some (.int .i64 v), some (.bool ch) => some (.atom (.int .i64 (roleI ch (.ofNat (n + 1)) v id)))
      | _, _, _, _ => none
    | none => none
  | _ => none
def g84 (s : S) : List SV1 → Option SV1
  | [p, .atom (.int .i64 k)] => match litAt s p with
    | some cs => match (cs[5]? : Option Cell), (cs[7]? : Option Cell) with
      | some (.int .i64 c), some (.sl v n) => some (.agg (toldC k n c v))
      | _, _ => none
    | none => none
  | _ => none

theorem litAt_ok {hE : GH} {w0 : World} {inc : List Nat} {n : Nat} {s : S} {h : GH} {β : Nat → Nat} {w : World} {tmps : Array Value} (hS : Sim hE w0 inc n s h β w tmps) {p : SV1} {cs : List Cell} (hl : litAt s p = some cs) {x : Value} (hx : SV1Ok s.nb β p x) :
    ∃ rb, x = .pointer (some ⟨rb, 0, none⟩) ∧ RoR (fun b => w.heap[b]?) rb cs := by
  unfold litAt at hl
  split at hl
  · rename_i k
    split at hl
    · rename_i inc' T cs' hb
      simp only [Option.some.injEq] at hl; subst hl
      obtain ⟨arr, h1, h2⟩ := hS.box k _ hb
      exact ⟨β k, hx.1, ⟨arr, T, (0, 0), _, _, h1, h2⟩⟩
    · simp at hl
  · simp at hl

theorem subSelf (w : World) : Sub (fun b => w.heap[b]?) w := fun _ _ h => h

theorem succ_ne (n : Nat) : Int.ofNat (n + 1) ≠ 0 := by intro hh; cases hh

theorem tab99 : TabOk Try.prog (tabF 99 g99) := tabF_ok fun s svs v hg hE w0 inc n h β w tmps args hS ha => by
  unfold g99 at hg
  split at hg
  · rename_i p
    obtain ⟨x, rfl, hx⟩ := args1 ha
    split at hg
    · rename_i cs hl
      split at hg
      · rename_i u m hc
        simp only [Option.some.injEq] at hg; subst hg
        obtain ⟨rb, rfl, hr⟩ := litAt_ok hS hl hx
        exact (f99_ok hr hc (subSelf w)).mono fun e w' ⟨h1, h2⟩ => ⟨_, h1, rfl, h2⟩
      · simp at hg
    · simp at hg
  · simp at hg

theorem tab78 : TabOk Try.prog (tabF 78 g78) := tabF_ok fun s svs v hg hE w0 inc n h β w tmps args hS ha => by
  unfold g78 at hg
  split at hg
  · rename_i p vv
    obtain ⟨x, y, rfl, hx, hy⟩ := args2 ha
    split at hg
    · rename_i cs hl
      split at hg
      · rename_i m hc
        simp only [Option.some.injEq] at hg; subst hg
        obtain ⟨rb, rfl, hr⟩ := litAt_ok hS hl hx
        simp only [SV1Ok, CellOk] at hy
        subst hy
        exact (f78_ok hr hc (succ_ne _) (subSelf w)).mono fun e w' ⟨h1, h2⟩ => ⟨_, h1, rfl, h2⟩
      · simp at hg
    · simp at hg
  · simp at hg

theorem tab126 : TabOk Try.prog (tabF 126 g126) := tabF_ok fun s svs v hg hE w0 inc n h β w tmps args hS ha => by
  unfold g126 at hg
  split at hg
  · rename_i p
    obtain ⟨x, rfl, hx⟩ := args1 ha
    split at hg
    · rename_i cs hl
      split at hg
      · rename_i m hc
        simp only [Option.some.injEq] at hg; subst hg
        obtain ⟨rb, rfl, hr⟩ := litAt_ok hS hl hx
        exact (f126_ok hr hc (subSelf w)).mono fun e w' ⟨h1, h2⟩ => ⟨_, h1, rfl, h2⟩
      · simp at hg
    · simp at hg
  · simp at hg

theorem tab26 : TabOk Try.prog (tabF 26 g26) := tabF_ok fun s svs v hg hE w0 inc n h β w tmps args hS ha => by
  unfold g26 at hg
  split at hg
  · rename_i p
    obtain ⟨x, rfl, hx⟩ := args1 ha
    split at hg
    · rename_i cs hl
      split at hg
      · rename_i m id vv ch h0 h1 h3 h8
        simp only [Option.some.injEq] at hg; subst hg
        obtain ⟨rb, rfl, hr⟩ := litAt_ok hS hl hx
        exact (f26_ok hr h0 h1 h3 h8 (succ_ne _) (subSelf w)).mono fun e w' ⟨h1, h2⟩ => ⟨_, h1, rfl, h2⟩
      · simp at hg
    · simp at hg
  · simp at hg

theorem tab84 : TabOk Try.prog (tabF 84 g84) := tabF_ok fun s svs v hg hE w0 inc n h β w tmps args hS ha => by
  unfold g84 at hg
  split at hg
  · rename_i p kk
    obtain ⟨x, y, rfl, hx, hy⟩ := args2 ha
    split at hg
    · rename_i cs hl
      split at hg
      · rename_i c u m h5 h7
        simp only [Option.some.injEq] at hg; subst hg
        obtain ⟨rb, rfl, hr⟩ := litAt_ok hS hl hx
        simp only [SV1Ok, CellOk] at hy
        subst hy
        exact (f84_ok hr h5 h7 (subSelf w)).mono fun e w' ⟨h1, h2⟩ => ⟨_, h1, ⟨_, rfl, rfl, rfl, rfl, rfl, rfl, rfl, rfl, ⟨rfl, (hr.sl h7).1⟩, trivial⟩, h2⟩
      · simp at hg
    · simp at hg
  · simp at hg

def tabR : Tab := tabOr (tabF 99 g99) (tabOr (tabF 78 g78) (tabOr (tabF 126 g126) (tabOr (tabF 26 g26) (tabF 84 g84))))
theorem tabR_ok : TabOk Try.prog tabR := tabOr_ok tab99 (tabOr_ok tab78 (tabOr_ok tab126 (tabOr_ok tab26 tab84)))
end Go.Proofs.Ytkjahaoobdbffaa

/- The replica in memory: calls of methods that write it; forget, enter. -/
namespace Go.Proofs.Ytkjahaoobdbffaa
open Go Go.RowKit
attribute [local irreducible] G GD GDop

def rptr (A : Adr) : Value := .pointer (some ⟨A.rb, 0, none⟩)

def RepEnd (A : Adr) (h : GH) (w : World) (r : Rep) (x : RMem) (r' : Rep) (Q : GH → Value → Prop) : Ending → World → Prop := fun e w' =>
  ∃ x' h' v, e = .returned v ∧ Mend h w (repM A r x) h' w' (repM A r' x') ∧ RepR h' r' x' ∧ Q h' v

/-- A call of function f that turns the replica r into r'. -/
def RepCall (A : Adr) (f : FuncId) (args : List Value) (h : GH) (r r' : Rep) (Q : GH → Value → Prop) : Prop :=
  ∀ w x, RepR h r x → MemOk h w (repM A r x) → Sub h w → Calls Try.prog f args.toArray w (RepEnd A h w r x r' Q)

noncomputable def repCtx (f : FuncId) (n : Nat) (A : Adr) (h : GH) (w : World) (r : Rep) (x : RMem) (r' : Rep) (Q : GH → Value → Prop) : Ctx := ⟨Try.prog, f, h, w, (repM A r x).inc, n, RepEnd A h w r x r' Q⟩

def repBx (A : Adr) (r : Rep) (x : RMem) : List (Nat × Box) := [(0, ⟨some A.rb, .lit 135 (repC A r x)⟩), (1, ⟨some A.ab, .obj x.a⟩), (2, ⟨some A.sb, .obj x.s⟩), (3, ⟨some A.cb, .obj x.c⟩)]
def repOw (r : Rep) (x : RMem) : List (Nat × Own) := [(0, ⟨45, 8, x.ov, r.out.length, x.oxs⟩)]
def repS (A : Adr) (r : Rep) (x : RMem) (slots : List (Nat × SV)) : S := ⟨slots, repBx A r x, 4, repOw r x⟩

theorem RepCall.of {A : Adr} {f : FuncId} {h : GH} {r r' : Rep} {Q : GH → Value → Prop} {fn : Func} {c : Code} {n : Nat} (svs : List SV1) {vals : List Value} (hf : Try.prog.funcs[f]? = some fn) (hb : fn.body = some c) (hnt : fn.ntmps = n) (hargs : ∀ N β, SV1sOk N β svs vals) (hn : vals.length + 1 ≤ n)
    (hG : ∀ w x, RepR h r x → G (repCtx f n A h w r x r' Q) h ⟨[.code c], repS A r x (number 0 (.atom (.ptr 0 0) :: svs))⟩) : RepCall A f (rptr A :: vals) h r r' Q := fun w x hR hm hs =>
  Calls.enterM (repM A r x) (.atom (.ptr 0 0) :: svs) hf hb hnt rfl hm ⟨⟨rfl, by simp [repM]⟩, hargs _ _⟩ (by simpa using hn) hs (hG w x hR)

theorem G.retRep {f : FuncId} {n : Nat} {A : Adr} {h0 h : GH} {w : World} {r r' : Rep} {x : RMem} {Q : GH → Value → Prop} {c : Cfg} {fn : Func} {rs : Array ResultVar} (hf : Try.prog.funcs[f]? = some fn) (hrs : fn.results = rs) (v : Value) (hv : retVal Try.prog c rs.toList = some v) (r1 : Rep) (x' : RMem)
    (hb : takeB c.s.boxes 0 4 = some (repM A r1 x').bs) (ho : takeO c.s.owns 0 1 = some (repM A r1 x').os) (he : r1 = r') (hR : RepR h r1 x') (hQ : Q h v) : G (repCtx f n A h0 w r x r' Q) h c := by
  subst he
  exact G.retM (repM A r x) hf hrs v hv rfl (repM A r1 x') hb ho rfl fun w' hm => ⟨x', h, v, rfl, hm, hR, hQ⟩

structure RepIn (A : Adr) (r : Rep) (x : RMem) (s : S) : Prop where
  b0 : bx 0 s.boxes = some ⟨some A.rb, .lit 135 (repC A r x)⟩
  b1 : bx 1 s.boxes = some ⟨some A.ab, .obj x.a⟩
  b2 : bx 2 s.boxes = some ⟨some A.sb, .obj x.s⟩
  b3 : bx 3 s.boxes = some ⟨some A.cb, .obj x.c⟩
  o0 : ow 0 s.owns = some ⟨45, 8, x.ov, r.out.length, x.oxs⟩

def rk : List Nat := [0, 1, 2, 3]
def repB (A : Adr) (r : Rep) (x : RMem) : List BoxB := [.lit 135 (repC A r x), .obj x.a, .obj x.s, .obj x.c]
def repO (r : Rep) (x : RMem) : List Own := [⟨45, 8, x.ov, r.out.length, x.oxs⟩]

theorem RepIn.pick {A : Adr} {r : Rep} {x : RMem} {s : S} (hi : RepIn A r x s) : pickB s.boxes rk = some (repB A r x) ∧ pickO s.owns [0] = some (repO r x) ∧ handOk s rk [0] [] = true := by
  refine ⟨?_, ?_, rfl⟩
  · simp only [rk, pickB, hi.b0, hi.b1, hi.b2, hi.b3, repB]
    rfl
  · simp only [pickO, hi.o0, repO]

theorem RepIn.memOf {A : Adr} {r : Rep} {x : RMem} {s : S} (hi : RepIn A r x s) {hE : GH} {w0 : World} {inc : List Nat} {n : Nat} {h : GH} {β : Nat → Nat} {w : World} {tmps : Array Value} (hS : Sim hE w0 inc n s h β w tmps) (r' : Rep) (x' : RMem) :
    Ytkjahaoobdbffaa.memOf β rk (repB A r' x') (repO r' x') = repM A r' x' := by
  have h0 := hS.fresh 0 _ hi.b0
  have h1 := hS.fresh 1 _ hi.b1
  have h2 := hS.fresh 2 _ hi.b2
  have h3 := hS.fresh 3 _ hi.b3
  simp only at h0 h1 h2 h3
  simp [Ytkjahaoobdbffaa.memOf, rk, repB, repM, repO, h0.1, h1.1, h2.1, h3.1]

def repPut (A : Adr) (s : S) (r : Rep) (x : RMem) : S := putMem s rk [0] (repB A r x) (repO r x)

/-- **A call of a method that writes the replica.** -/
theorem G.callRep {C : Ctx} {h : GH} {c : Cfg} {f : FuncId} {svs : List SV1} {d : Option Nat} (hP : C.P = Try.prog) (hc : callView c = some ⟨f, .atom (.ptr 0 0) :: svs, d, none⟩) (he : enters Try.prog f = true) (hd : dstOk C.n d = true) (A : Adr) (r r' : Rep) (x : RMem) (hi : RepIn A r x c.s) (vals : List Value) (hv : svVals svs = some vals)
    (Q : GH → Value → Prop) (hcall : RepCall A f (rptr A :: vals) h r r' Q) (hR : RepR h r x)
    (hk : ∀ h' x' v, GLe h h' → RepR h' r' x' → Q h' v → ∃ sv, (∀ N β tmps, SVOk N β tmps sv v) ∧ G C h' (afterOp (withS c (repPut A c.s r' x')) sv)) : G C h c := by
  obtain ⟨P, fid, hE, w0, inc, n, R⟩ := C
  simp only at hP; subst hP
  obtain ⟨hb, ho, hh⟩ := hi.pick
  refine G.callM rk [0] [] hc he hd hb ho hh (fun h' v bs os => ∃ x', GLe h h' ∧ RepR h' r' x' ∧ Q h' v ∧ bs = repB A r' x' ∧ os = repO r' x') (fun β w tmps l hS hl hsub hmem => ?_) ?_
  · rw [roH_nil] at hmem hsub ⊢
    rw [hi.memOf hS] at hmem ⊢
    have hl' : l = rptr A :: vals := by
      match l, hl with
      | y :: ys, hl =>
        have h1 : y = rptr A := by
          have := hl.1
          simp only [SV1Ok, CellOk] at this
          rw [this.1]
          have h0 := hS.fresh 0 _ hi.b0
          simp only at h0
          simp [rptr, h0.1]
        rw [h1, svVals_ok hv hl.2]
    subst hl'
    refine (hcall w x hR hmem hsub).mono ?_
    rintro e w' ⟨x', h', v, rfl, hm, hR', hQ⟩
    refine ⟨v, repB A r' x', repO r' x', h', rfl, rfl, rfl, ?_, x', ?_⟩
    · rw [hi.memOf hS]; exact hm
    · rw [hideH_nil]; exact ⟨hm.le, hR', hQ, rfl, rfl⟩
  · rintro h' v bs os ⟨x', hle, hR', hQ, rfl, rfl⟩ -
    exact hk h' x' v hle hR' hQ

theorem GDop.callRep {C : Ctx} {h0 h : GH} {ops : Array Oper} {k : List Item} {kl : List Nat} {c : DCfg} {i : Nat} {f : FuncId} {svs : List SV1} {d : Option Nat} (hP : C.P = Try.prog) (hc : callAtD ops c i = some ⟨f, .atom (.ptr 0 0) :: svs, d, none⟩) (he : enters Try.prog f = true) (hd : dstOk C.n d = true) (hlv : liveAll kl c.s = true) (hdk : disj kl rk = true) (A : Adr) (r r' : Rep) (x : RMem) (hi : RepIn A r x c.s) (vals : List Value) (hv : svVals svs = some vals)
    (Q : GH → Value → Prop) (hcall : RepCall A f (rptr A :: vals) h r r' Q) (hR : RepR h r x)
    (hk : ∀ h' x' v, GLe h h' → RepR h' r' x' → Q h' v → ∃ sv, (∀ N β tmps, SVOk N β tmps sv v) ∧ GD C h0 h' ops k kl (afterN ops c i (repPut A c.s r' x') sv)) : GDop C h0 h ops k kl c i := by
  obtain ⟨P, fid, hE, w0, inc, n, R⟩ := C
  simp only at hP; subst hP
  obtain ⟨hb, ho, hh⟩ := hi.pick
  refine GDop.callM rk [0] [] hc he hd hb ho hh hlv hdk (fun h' v bs os => ∃ x', GLe h h' ∧ RepR h' r' x' ∧ Q h' v ∧ bs = repB A r' x' ∧ os = repO r' x') (fun β w tmps l hS hl hsub hmem => ?_) ?_
  · rw [roH_nil] at hmem hsub ⊢
    rw [hi.memOf hS] at hmem ⊢
    have hl' : l = rptr A :: vals := by
      match l, hl with
      | y :: ys, hl =>
        have h1 : y = rptr A := by
          have := hl.1
          simp only [SV1Ok, CellOk] at this
          rw [this.1]
          have h0 := hS.fresh 0 _ hi.b0
          simp only at h0
          simp [rptr, h0.1]
        rw [h1, svVals_ok hv hl.2]
    subst hl'
    refine (hcall w x hR hmem hsub).mono ?_
    rintro e w' ⟨x', h', v, rfl, hm, hR', hQ⟩
    refine ⟨v, repB A r' x', repO r' x', h', rfl, rfl, rfl, ?_, x', ?_⟩
    · rw [hi.memOf hS]; exact hm
    · rw [hideH_nil]; exact ⟨hm.le, hR', hQ, rfl, rfl⟩
  · rintro h' v bs os ⟨x', hle, hR', hQ, rfl, rfl⟩ -
    exact hk h' x' v hle hR' hQ

def unitV : Value := .tuple #[]
def Q0 : GH → Value → Prop := fun _ v => v = unitV
theorem unit_ok : ∀ N β tmps, SVOk N β tmps (.tup []) unitV := fun _ _ _ => ⟨#[], rfl, trivial⟩

theorem skip_obj {u : Value} {d : Option Nat} : objNext (.value u) u d := .inr rfl

theorem f76_ok {A : Adr} {h : GH} {r : Rep} : RepCall A 76 [rptr A] h r r.forget Q0 := by
  refine RepCall.of [] Try.func76 (c := bodyOf Try.f76) (by kernel_rfl) Try.ntmps76 (fun _ _ => trivial) (by simp) fun w x hR => ?_
  refine G.runE tm 100 ?_
  obtain ⟨oa, ha, hra⟩ := hR.acks.clear (b := A.ab) (ty := 0) (cs := #[false]) Try.underlying131
  obtain ⟨os, hs, hrs⟩ := hR.starts.clear (b := A.sb) (ty := 0) (cs := #[false]) Try.underlying132
  obtain ⟨oc, hc, hrc⟩ := hR.changes.clear (b := A.cb) (ty := 0) (cs := #[false]) Try.underlying133
  refine G.semObj (m := builtin .clear #[131] 0 #[false] #[.map (some A.ab)]) (d := none) (by kernel_rfl) (by kernel_rfl) (k := 1) (b := A.ab) (o := x.a) (o' := oa) (by kernel_rfl) unitV (.atom .any) (fun _ _ => trivial) ⟨_, skip_obj, hra⟩ ?_
  refine G.runE tm 100 ?_
  refine G.semObj (m := builtin .clear #[132] 0 #[false] #[.map (some A.sb)]) (d := none) (by kernel_rfl) (by kernel_rfl) (k := 2) (b := A.sb) (o := x.s) (o' := os) (by kernel_rfl) unitV (.atom .any) (fun _ _ => trivial) ⟨_, skip_obj, hrs⟩ ?_
  refine G.runE tm 100 ?_
  refine G.semObj (m := builtin .clear #[133] 0 #[false] #[.map (some A.cb)]) (d := none) (by kernel_rfl) (by kernel_rfl) (k := 3) (b := A.cb) (o := x.c) (o' := oc) (by kernel_rfl) unitV (.atom .any) (fun _ _ => trivial) ⟨_, skip_obj, hrc⟩ ?_
  refine G.runE tm 100 ?_
  exact G.retRep Try.func76 Try.results76 unitV (by kernel_rfl) r.forget ⟨x.lv, x.ov, x.oxs, oa, os, oc⟩ (by kernel_rfl) (by kernel_rfl) rfl ⟨hR.log, hR.out, hR.ov, ha, hs, hc⟩ rfl
end Go.Proofs.Ytkjahaoobdbffaa

/- The base of this seat's proofs, twenty-third part: a call inside a region of open order, whose answer is not known before; all orders are gone through. -/
namespace Go.Proofs.Ytkjahaoobdbffaa
open Go Go.RowKit

def apps (f : DCfg → Option (List DCfg)) : List DCfg → Option (List DCfg)
  | [] => some []
  | x :: xs => match f x, apps f xs with
    | some a, some b => some (a ++ b)
    | _, _ => none

theorem apps_mem {f : DCfg → Option (List DCfg)} : ∀ {l r : List DCfg}, apps f l = some r → ∀ x ∈ l, ∃ a, f x = some a ∧ ∀ y ∈ a, y ∈ r := by
  intro l
  induction l with
  | nil => intro r _ x hx; simp at hx
  | cons y l ih =>
    intro r h x hx
    simp only [apps] at h
    split at h
    · rename_i a b h1 h2
      simp only [Option.some.injEq] at h; subst h
      simp only [List.mem_cons] at hx
      rcases hx with rfl | hx
      · exact ⟨a, h1, fun z hz => by simp [hz]⟩
      · obtain ⟨a', h3, h4⟩ := ih h2 x hx
        exact ⟨a', h3, fun z hz => by simp [h4 z hz]⟩
    · simp at h

/-- Where operation j comes up. -/
def explJ (P : Program) (n : Nat) (tab : Tab) (ops : Array Oper) (ks : List Nat) (j : Nat) : Nat → DCfg → Option (List DCfg)
  | 0, _ => none
  | m + 1, d => match runDT P n tab ops ks 100 d with
    | d1 => match isPos d1.fuel with
      | false => none
      | true => match Region.ready .any ops d1.listed with
        | [] => none
        | r :: rs => match nextsOfT P n tab ops ks d1 (minusK (r :: rs) [j]) with
          | some xs => (apps (explJ P n tab ops ks j m) xs).map fun l => if memN j (r :: rs) then d1 :: l else l
          | none => none

theorem minusK_mem {u : List Nat} {x : Nat} : ∀ {l : List Nat}, x ∈ l → x ∉ u → x ∈ minusK l u := by
  intro l
  induction l with
  | nil => intro h; simp at h
  | cons y l ih =>
    intro h hu
    simp only [minusK]
    simp only [List.mem_cons] at h
    split
    · rename_i e
      rcases h with rfl | h
      · exact absurd (memN_iff.1 e) hu
      · exact ih h hu
    · rcases h with rfl | h
      · simp
      · simp [ih h hu]

theorem GD.explJ {C : Ctx} {h0 h : GH} {tab : Tab} (ht : TabOk C.P tab) {ops : Array Oper} {k : List Item} {ks : List Nat} (hns : Region.noSelect ops = true) (j : Nat) : ∀ (m : Nat) {d : DCfg} {l : List DCfg}, Ytkjahaoobdbffaa.explJ C.P C.n tab ops ks j m d = some l → (∀ x ∈ l, GDop C h0 h ops k ks x j) → GD C h0 h ops k ks d
  | 0, d, l, he, H => by simp [Ytkjahaoobdbffaa.explJ] at he
  | m + 1, d, l, he, H => by
    refine GD.runT ht hns 100 ?_
    rw [Ytkjahaoobdbffaa.explJ] at he
    generalize runDT C.P C.n tab ops ks 100 d = d1 at he
    split at he
    · simp at he
    · rename_i hp
      split at he
      · simp at he
      · rename_i r rs hr
        split at he
        · rename_i xs hx
          obtain ⟨l1, h3, h4⟩ := map_some he
          obtain ⟨h1, h2⟩ := nextsOfT_ok _ _ hx
          refine GD.every (Region.ready .any ops d1.listed) ?_ fun i hi => ?_
          · unfold readyIs
            cases hf : d1.fuel with
            | zero => rw [hf] at hp; simp [isPos] at hp
            | succ f => simp [hr]
          · rw [hr] at hi
            by_cases e : i = j
            · subst e
              rw [if_pos (memN_iff.2 hi)] at h4
              exact H d1 (by rw [← h4]; simp)
            · obtain ⟨y, h5, h6⟩ := h2 i (minusK_mem hi (by simpa using e))
              obtain ⟨a, h7, h8⟩ := apps_mem h3 y h5
              refine GDop.nextT ht h6 (GD.explJ ht hns j m h7 fun z hz => H z ?_)
              have := h8 z hz
              rw [← h4]
              split
              · simp [this]
              · exact this
        · simp at he

def postJ (P : Program) (n : Nat) (tab : Tab) (ops : Array Oper) (ks : List Nat) (j m : Nat) (d : DCfg) (sv : SV) : List DCfg := ((explJ P n tab ops ks j m d).getD []).flatMap fun x => explT P n tab ops ks m (afterN ops x j x.s sv)

def postD (P : Program) (n : Nat) (tab : Tab) (ops : Array Oper) (ks : List Nat) (j m : Nat) (d : DCfg) (sv : SV) : DCfg := normD ((postJ P n tab ops ks j m d sv).headD d)

def liveAlls (ks : List Nat) : List DCfg → Bool
  | [] => true
  | x :: l => liveAll ks x.s && liveAlls ks l

theorem liveAlls_mem {ks : List Nat} {l : List DCfg} (h : liveAlls ks l = true) : ∀ x ∈ l, liveAll ks x.s = true := by
  induction l with
  | nil => simp
  | cons y l ih =>
    intro x hx
    simp only [liveAlls, Bool.and_eq_true] at h
    simp only [List.mem_cons] at hx
    rcases hx with rfl | hx
    · exact h.1
    · exact ih h.2 x hx

/-- **A call whose answer is not known before**, in a region of open order: it may come up at many places. -/
theorem GD.callJ {C : Ctx} {h0 h : GH} {tab : Tab} (ht : TabOk C.P tab) {ops : Array Oper} {k : List Item} {ks : List Nat} {d : DCfg} (hns : Region.noSelect ops = true) (j m : Nat) {f : FuncId} {svs : List SV1} {dst : Option Nat} (vals : List Value)
    (hx : ((Ytkjahaoobdbffaa.explJ C.P C.n tab ops ks j m d).map fun l => l.map fun x => callAtD ops x j) = some (((Ytkjahaoobdbffaa.explJ C.P C.n tab ops ks j m d).getD []).map fun _ => some ⟨f, svs, dst, none⟩)) (hlv : liveAlls ks ((Ytkjahaoobdbffaa.explJ C.P C.n tab ops ks j m d).getD []) = true) (hv : svVals svs = some vals) (he : enters C.P f = true) (hd : dstOk C.n dst = true)
    (Q : GH → Value → Prop) (hcall : ∀ w, Sub h w → Calls C.P f vals.toArray w fun e w' => ∃ v h', e = .returned v ∧ Grow h w h' w' ∧ Q h' v)
    (hk : ∀ h' v, Q h' v → GLe h h' → ∃ sv, (∀ N β tmps, SVOk N β tmps sv v) ∧ (postJ C.P C.n tab ops ks j m d sv).map normD = (postJ C.P C.n tab ops ks j m d sv).map (fun _ => postD C.P C.n tab ops ks j m d sv) ∧ okDs (postJ C.P C.n tab ops ks j m d sv) = true ∧ GD C h0 h' ops k ks (postD C.P C.n tab ops ks j m d sv)) : GD C h0 h ops k ks d := by
  cases hl : Ytkjahaoobdbffaa.explJ C.P C.n tab ops ks j m d with
  | none => rw [hl] at hx; simp at hx
  | some l =>
    rw [hl] at hx hlv
    simp only [Option.map_some, Option.some.injEq, Option.getD_some] at hx hlv
    refine GD.explJ ht hns j m hl fun x hxl => ?_
    have h1 : callAtD ops x j = some ⟨f, svs, dst, none⟩ := by
      have := List.map_inj_left.1 hx x hxl
      exact this
    refine GDop.callP h1 vals hv he hd (liveAlls_mem hlv x hxl) Q hcall fun h' v hq hle => ?_
    obtain ⟨sv, h2, h3, h4, h5⟩ := hk h' v hq hle
    refine ⟨sv, h2, GD.explT ht hns m fun z hz => ?_⟩
    have hzm : z ∈ postJ C.P C.n tab ops ks j m d sv := by
      unfold postJ
      rw [hl]
      simp only [Option.getD_some, List.mem_flatMap]
      exact ⟨x, hxl, hz⟩
    exact GD.norm (okDs_mem h4 z hzm) (by rw [List.map_inj_left.1 h3 z hzm]; exact h5)

/-- **All orders of a region lead to the same**, calls whose answer is known too. -/
theorem GD.autoT {C : Ctx} {h0 h : GH} {tab : Tab} (ht : TabOk C.P tab) {ops : Array Oper} {k : List Item} {ks : List Nat} {d : DCfg} (hns : Region.noSelect ops = true) (m : Nat) (he : (Ytkjahaoobdbffaa.explT C.P C.n tab ops ks m d).map normD = (Ytkjahaoobdbffaa.explT C.P C.n tab ops ks m d).map fun _ => normD ((Ytkjahaoobdbffaa.explT C.P C.n tab ops ks m d).headD d)) (hok : okDs (Ytkjahaoobdbffaa.explT C.P C.n tab ops ks m d) = true)
    (hk : GD C h0 h ops k ks (normD ((Ytkjahaoobdbffaa.explT C.P C.n tab ops ks m d).headD d))) : GD C h0 h ops k ks d := by
  refine GD.explT ht hns m fun x hx => ?_
  exact GD.norm (okDs_mem hok x hx) (by rw [List.map_inj_left.1 he x hx]; exact hk)
end Go.Proofs.Ytkjahaoobdbffaa

/- The replica in memory: enter, send, sent, say. -/

namespace Go.Proofs.Ytkjahaoobdbffaa
open Go Go.RowKit
attribute [local irreducible] G GD GDop

/-- The replica's cells, its lists' lengths told apart. -/
def repCn (A : Adr) (r : Rep) (x : RMem) (k n : Nat) : List Cell :=
  [.int .i64 (Int.ofNat (r.n0 + 1)), .int .i64 r.id, .int .i64 r.timeout, .int .i64 r.view, .int .i64 r.normal, .int .i64 r.commit, .int .i64 r.active, .sl x.lv k, .bool r.changing,
    .raw (.map (some A.ab)), .raw (.map (some A.sb)), .raw (.map (some A.cb)), .bool r.said, .int .i64 r.quiet, .sl x.ov n]
def repBn (A : Adr) (r : Rep) (x : RMem) (k n : Nat) : List (Nat × BoxB) := [(A.rb, .lit 135 (repCn A r x k n)), (A.ab, .obj x.a), (A.sb, .obj x.s), (A.cb, .obj x.c)]

theorem G.retRepN {f : FuncId} {n : Nat} {A : Adr} {h0 h : GH} {w : World} {r r' : Rep} {x : RMem} {Q : GH → Value → Prop} {c : Cfg} {fn : Func} {rs : Array ResultVar} (hf : Try.prog.funcs[f]? = some fn) (hrs : fn.results = rs) (v : Value) (hv : retVal Try.prog c rs.toList = some v) (r1 : Rep) (x' : RMem) (k m : Nat)
    (hb : takeB c.s.boxes 0 4 = some (repBn A r1 x' k m)) (ho : takeO c.s.owns 0 1 = some [⟨45, 8, x'.ov, m, x'.oxs⟩]) (hk : k = r1.log.length) (hm : m = r1.out.length) (he : r1 = r') (hR : RepR h r1 x') (hQ : Q h v) : G (repCtx f n A h0 w r x r' Q) h c := by
  subst hk hm
  exact G.retRep hf hrs v hv r1 x' hb ho he hR hQ

theorem RepIn.ofN {A : Adr} {r : Rep} {x : RMem} {s : S} (k n : Nat) (b0 : bx 0 s.boxes = some ⟨some A.rb, .lit 135 (repCn A r x k n)⟩) (b1 : bx 1 s.boxes = some ⟨some A.ab, .obj x.a⟩) (b2 : bx 2 s.boxes = some ⟨some A.sb, .obj x.s⟩) (b3 : bx 3 s.boxes = some ⟨some A.cb, .obj x.c⟩)
    (o0 : ow 0 s.owns = some ⟨45, 8, x.ov, n, x.oxs⟩) (hk : k = r.log.length) (hn : n = r.out.length) : RepIn A r x s := by
  subst hk hn
  exact ⟨b0, b1, b2, b3, o0⟩

def LogOk (l : List Ent) : Prop := l.length ≤ 1000 ∧ ∀ e ∈ l, entSmall e

theorem el50 : ElT Try.prog 50 45 8 80 := .of Try.underlying50 (by kernel_rfl) (by decide)

def msgL (m : Msg) (p : Value) : List Value := [.int .i64 m.kind, .int .i64 m.view, .int .i64 m.frm, .int .i64 m.to, .int .i64 m.op, .int .i64 m.commit, .int .i64 m.normal, p]

theorem ListR.one {α : Type} {sz : Nat} {R : List Value → α → Prop} {xs : List Value} {y : α} (h : R xs y) (hl : xs.length = sz := by rfl) : ListR sz R xs [y] := by
  subst hl
  refine ⟨by simp, fun i z hz => ?_⟩
  cases i with
  | zero => simp only [List.getElem?_cons_zero, Option.some.injEq] at hz; subst hz; simpa using h
  | succ i => simp at hz

theorem f125_ok {A : Adr} {h : GH} {r : Rep} {v : Int} : RepCall A 125 [rptr A, .int .i64 v] h r (r.enter v) Q0 := by
  refine RepCall.of [.atom (.int .i64 v)] Try.func125 (c := bodyOf Try.f125) (by kernel_rfl) Try.ntmps125 (fun _ _ => ⟨rfl, trivial⟩) (by simp) fun w x hR => ?_
  refine G.runE tm 100 ?_
  refine G.callRep (f := 76) (svs := []) (d := some 13) rfl (by kernel_rfl) (by kernel_rfl) (by kernel_rfl) A { r with view := v, changing := true } (r.enter v) x ⟨by kernel_rfl, by kernel_rfl, by kernel_rfl, by kernel_rfl, by kernel_rfl⟩ [] (by kernel_rfl) Q0 f76_ok ⟨hR.log, hR.out, hR.ov, hR.acks, hR.starts, hR.changes⟩ ?_
  rintro h' x' v' hle hR' rfl
  refine ⟨.tup [], unit_ok, ?_⟩
  refine G.runE tm 100 ?_
  exact G.retRep Try.func125 Try.results125 unitV (by kernel_rfl) (r.enter v) x' (by kernel_rfl) (by kernel_rfl) rfl hR' rfl

theorem f86_ok {A : Adr} {h : GH} {r : Rep} (ho : r.out.length ≤ 1000000) : RepCall A 86 [rptr A] h r { r with out := [] } fun h' v => SlR h' 8 (MsgR h') v r.out := by
  refine RepCall.of [] Try.func86 (c := bodyOf Try.f86) (by kernel_rfl) Try.ntmps86 (fun _ _ => trivial) (by simp) fun w x hR => ?_
  refine G.runE tm 100 ?_
  refine G.freeze 0 (e := 45) (sz := 8) (v := x.ov) (m := r.out.length) (xs := x.oxs) (by kernel_rfl) fun h' hle hf _ => ?_
  refine G.ownNil 0 45 8 ?_
  exact G.retRep Try.func86 Try.results86 x.ov (by kernel_rfl) { r with out := [] } ⟨x.lv, nilS, [], x.a, x.s, x.c⟩ (by kernel_rfl) (by kernel_rfl) rfl ⟨hR.log.mono hle, ListR.nil, ⟨none, 0, rfl⟩, hR.acks, hR.starts, hR.changes.mono fun _ _ hh => hh.mono hle⟩
    (SlR.of_freeze hf (hR.out.mono fun _ _ hh => hh.mono hle) rfl (by omega))

theorem f83_ok {A : Adr} {h : GH} {r : Rep} {to : Int} {m : Msg} {p : Value} (hp : EntsR h p m.log) (hl : LogOk m.log) (ho : r.out.length ≤ 1000000) : RepCall A 83 [rptr A, .int .i64 to, msgV m p] h r (r.send to m) Q0 := by
  refine RepCall.of [.atom (.int .i64 to), .agg (msgC m p)] Try.func83 (c := bodyOf Try.f83) (by kernel_rfl) Try.ntmps83 (fun _ _ => ⟨rfl, msgC_ok hp _ _, trivial⟩) (by simp) fun w x hR => ?_
  refine G.runE tm 100 ?_
  refine G.draw [] tm (by kernel_rfl) (by kernel_rfl) ?_
  refine GD.callJ tabR_ok (by kernel_rfl) 13 8 (f := 77) (svs := [.atom (.sl p m.log.length)]) (dst := some 19) [p] (by kernel_rfl) (by kernel_rfl) (by kernel_rfl) (by kernel_rfl) (by kernel_rfl) (fun h' v => EntsR h' v m.log) (fun w hw => f77_ok hp hl.2 (by have := hl.1; omega) hw) fun h1 p1 hp1 hle1 => ⟨.one (.atom (.sl p1 m.log.length)), fun N β _ => SlR.sv hp1 N β, by kernel_rfl, by kernel_rfl, ?_⟩
  refine GD.fin (by kernel_rfl) ?_
  refine G.runE tm 100 ?_
  refine G.draw [] tm (by kernel_rfl) (by kernel_rfl) ?_
  refine GD.autoT tabR_ok (by kernel_rfl) 8 (by kernel_rfl) (by kernel_rfl) ?_
  refine GD.one 7 (by kernel_rfl) (GDop.appLit el50 0 (v := x.ov) (m := r.out.length) (xs := x.oxs) (kx := 5) (q := 1) (q' := 1) (d := some 31) (by kernel_rfl) (by kernel_rfl) (by kernel_rfl) (bi := none) (e' := 45) (cs := msgC (r.msg to m) p1) (by kernel_rfl) (news := msgL (r.msg to m) p1) (by kernel_rfl) rfl (by omega) (by omega) fun v' _ => ?_)
  refine GD.run (by kernel_rfl) 50 ?_
  refine GD.fin (by kernel_rfl) ?_
  refine G.ownForm 0 (e := 45) (sz := 8) (n := r.out.length + 1) (v := v') (xs := x.oxs ++ msgL (r.msg to m) p1) (by kernel_rfl) fun hform => ?_
  refine G.runE tm 100 ?_
  exact G.retRepN Try.func83 Try.results83 unitV (by kernel_rfl) (r.send to m) ⟨x.lv, v', x.oxs ++ msgL (r.msg to m) p1, x.a, x.s, x.c⟩ r.log.length (r.out.length + 1) (by kernel_rfl) (by kernel_rfl) rfl (by simp [Rep.send]) rfl
    ⟨hR.log.mono hle1, (hR.out.mono fun _ _ hh => hh.mono hle1).append (ListR.one ⟨p1, rfl, hp1⟩), by simpa [Rep.send] using hform, hR.acks, hR.starts, hR.changes.mono fun _ _ hh => hh.mono hle1⟩ rfl

theorem sayN_same (r : Rep) (m : Msg) (i : Nat) : ∃ o, r.sayN m i = { r with out := o } ∧ o.length ≤ r.out.length + i := by
  induction i with
  | zero => exact ⟨r.out, rfl, Nat.le_refl _⟩
  | succ i ih =>
    obtain ⟨o, h1, h2⟩ := ih
    simp only [Rep.sayN]
    split
    · exact ⟨o, h1, by omega⟩
    · rw [h1]; exact ⟨o ++ [r.msg i m], rfl, by simp; omega⟩

theorem f101_ok {A : Adr} {h : GH} {r : Rep} {m : Msg} {p : Value} (hp : EntsR h p m.log) (hl : LogOk m.log) (hn : r.n0 ≤ 1000) (ho : r.out.length ≤ 900000) : RepCall A 101 [rptr A, msgV m p] h r (r.say m) Q0 := by
  refine RepCall.of [.agg (msgC m p)] Try.func101 (c := bodyOf Try.f101) (by kernel_rfl) Try.ntmps101 (fun _ _ => ⟨msgC_ok hp _ _, trivial⟩) (by simp) fun w x hR => ?_
  refine G.runE tm 100 ?_
  refine G.loop (α := Nat × Rep × RMem)
    (fun y => ⟨[(0, .one (.atom (.ptr 0 0))), (3, .one (.atom (.ptr 4 0))), (9, .one (.atom (.int .i64 (Int.ofNat (r.n0 + 1))))), (10, .one (.atom (.int .i64 (Int.ofNat y.1))))], repBx A y.2.1 y.2.2 ++ [(4, ⟨none, .lit 45 (msgC m p)⟩)], 5, repOw y.2.1 y.2.2⟩)
    (fun y g => GLe h g ∧ y.1 ≤ r.n0 + 1 ∧ y.2.1 = r.sayN m y.1 ∧ RepR g y.2.1 y.2.2) (fun y => r.n0 + 1 - y.1) (0, r, x) [0, 3, 9, 10] [0, 1, 2, 3, 4] 5 [0] (by kernel_rfl) (by kernel_rfl) (by kernel_rfl) ⟨GLe.refl _, Nat.zero_le _, rfl, hR⟩ ?_
  rintro ⟨i, q, y⟩ g ⟨hle, hi, hq, hRq⟩ IH
  simp only at hi hq hRq
  refine G.runE tm 100 ?_
  refine G.cond (decide (Int.ofNat i < Int.ofNat (r.n0 + 1))) (by kernel_rfl) (fun hc => ?_) (fun hc => ?_)
  · have hlt : i < r.n0 + 1 := by simp only [decide_eq_true_eq, Int.ofNat_eq_natCast] at hc; omega
    refine G.runE tm 100 ?_
    obtain ⟨o, h1, h2⟩ := sayN_same r m i
    have hid : q.id = r.id := by rw [hq, h1]
    refine G.cond (!(Int.ofNat i == q.id)) (by kernel_rfl) (fun hc => ?_) (fun hc => ?_)
    · refine G.runE tm 100 ?_
      refine G.callRep (f := 83) (svs := [.atom (.int .i64 (Int.ofNat i)), .agg (msgC m p)]) (d := some 23) rfl (by kernel_rfl) (by kernel_rfl) (by kernel_rfl) A q (q.send (Int.ofNat i) m) y ⟨by kernel_rfl, by kernel_rfl, by kernel_rfl, by kernel_rfl, by kernel_rfl⟩ [.int .i64 (Int.ofNat i), msgV m p] (by kernel_rfl) Q0 (f83_ok (hp.mono hle) hl (by rw [hq, h1]; simp only; omega)) hRq ?_
      rintro h' x' v' hle' hR' rfl
      refine ⟨.tup [], unit_ok, ?_⟩
      refine G.runE tm 100 ?_
      refine G.reint (k := .i64) 10 (by kernel_rfl) (wrap_succ hlt (by omega)) ?_
      exact G.back (by kernel_rfl) [0, 3, 9, 10] [0, 1, 2, 3, 4] 5 [0] (by kernel_rfl) (by kernel_rfl) (IH (i + 1, q.send (Int.ofNat i) m, x') _ ⟨hle.trans hle', hlt, by
        have hne : ¬ ((i : Int) = r.id) := by rw [hid] at hc; simpa using hc
        simp only [Rep.sayN, if_neg hne, hq]; rfl, hR'⟩ (by simp only; omega))
    · refine G.runE tm 100 ?_
      refine G.reint (k := .i64) 10 (by kernel_rfl) (wrap_succ hlt (by omega)) ?_
      exact G.back (by kernel_rfl) [0, 3, 9, 10] [0, 1, 2, 3, 4] 5 [0] (by kernel_rfl) (by kernel_rfl) (IH (i + 1, q, y) _ ⟨hle, hlt, by
        have he : ((i : Int) = r.id) := by rw [hid] at hc; simpa using hc
        simp only [Rep.sayN, if_pos he, hq], hRq⟩ (by simp only; omega))
  · obtain rfl : i = r.n0 + 1 := by simp only [decide_eq_false_iff_not, Int.ofNat_eq_natCast] at hc; omega
    refine G.runE tm 100 ?_
    exact G.retRep Try.func101 Try.results101 unitV (by kernel_rfl) q y (by kernel_rfl) (by kernel_rfl) hq hRq rfl
end Go.Proofs.Ytkjahaoobdbffaa

/- The replica in memory: what fits, what extends; the beginning of a change. -/

namespace Go.Proofs.Ytkjahaoobdbffaa
open Go Go.RowKit
attribute [local irreducible] G GD GDop

theorem sl_sv (v : Value) (n : Nat) (hf : ∃ a c, v = .slice a n c) : ∀ N β, SV1Ok N β (.atom (.sl v n)) v := fun _ _ => ⟨rfl, hf⟩

/-- The first k of a slice, if there are so many. -/
theorem SlR.headIf {α : Type} {P : Program} {T E : TypeId} {h : GH} {sz : Nat} {R : List Value → α → Prop} {v : Value} {l : List α} (hs : SlR h sz R v l) (hu : P.underlying T = some (.slice E)) (hz : sizeP P E = some sz) (k : Nat) :
    ∃ v', (∃ a c, v' = .slice a k c) ∧ (k ≤ l.length → SlR h sz R v' (l.take k) ∧ ∀ w, (Instr.sliceAt T v none (some (.int .i64 k)) none).run P w = .ok v' w) := by
  by_cases hk : k ≤ l.length
  · obtain ⟨v', h1, h2⟩ := hs.head hu hz hk
    refine ⟨v', ?_, fun _ => ⟨h1, h2⟩⟩
    obtain ⟨a, c, h3⟩ := h1.isSlice
    rw [List.length_take, Nat.min_eq_left hk] at h3
    exact ⟨a, c, h3⟩
  · exact ⟨.slice none k 0, ⟨none, 0, rfl⟩, fun h => absurd h hk⟩

section ro
variable {h : GH} {w : World} {rb : Nat} {cs : List Cell}

theorem f129_ok {k n : Nat} {v u : Value} {l o : List Ent} (hr : RoR h rb cs) (h5 : cs[5]? = some (.int .i64 (k : Nat))) (h7 : cs[7]? = some (.sl v n)) (hv : EntsR h v o) (hu : EntsR h u l) (hk : k ≤ o.length) (hs : Sub h w) :
    Calls Try.prog 129 #[.pointer (some ⟨rb, 0, none⟩), u] w fun e w' => e = .returned (.bool (decide (k ≤ l.length) && decide (l.take k = o.take k))) ∧ Below w.heap.size w w' := by
  obtain ⟨hf, hrun⟩ := hr.sl h7
  obtain ⟨va, hva, hA⟩ := SlR.headIf hu Try.underlying22 z34 k
  obtain ⟨vb, hvb, hB⟩ := SlR.headIf hv Try.underlying22 z34 k
  refine Calls.enter [.atom (.raw (.pointer (some ⟨rb, 0, none⟩))), .atom (.sl u l.length)] Try.func129 (c := bodyOf Try.f129) (by kernel_rfl) Try.ntmps129 ⟨⟨rfl, rfl⟩, SlR.sv hu _ _, trivial⟩ (by simp) hs ?_
  refine G.runE tm 100 ?_
  refine G.draw [] tm (by kernel_rfl) (by kernel_rfl) ?_
  refine GD.sems [⟨6, ⟨valS (Instr.loadAt 3 (.pointer (some ⟨rb, 5, none⟩))), some 11, none⟩, .int .i64 k, .atom (.int .i64 k)⟩, ⟨14, ⟨valS (Instr.loadAt 3 (.pointer (some ⟨rb, 5, none⟩))), some 19, some (13, true)⟩, .int .i64 k, .atom (.int .i64 k)⟩,
    ⟨20, ⟨valS (Instr.loadAt 22 (.pointer (some ⟨rb, 7, none⟩))), some 25, some (13, true)⟩, v, .atom (.sl v n)⟩, ⟨25, ⟨valS (Instr.loadAt 3 (.pointer (some ⟨rb, 5, none⟩))), some 30, some (13, true)⟩, .int .i64 k, .atom (.int .i64 k)⟩] (by kernel_rfl)
    (semRows_cons ⟨by kernel_rfl, fun _ _ => rfl, fun w hw => run_valS (hr.int h5 w hw)⟩ (semRows_cons ⟨by kernel_rfl, fun _ _ => rfl, fun w hw => run_valS (hr.int h5 w hw)⟩ (semRows_cons ⟨by kernel_rfl, sl_sv _ _ hf, fun w hw => run_valS (hrun w hw)⟩ (semRows_cons ⟨by kernel_rfl, fun _ _ => rfl, fun w hw => run_valS (hr.int h5 w hw)⟩ semRows_nil)))) 40 (by kernel_rfl) ?_
  refine GD.sem 15 (m := valS (Instr.sliceAt 22 u none (some (.int .i64 k)) none)) (dst := some 20) (g := some (13, true)) (by kernel_rfl) (by kernel_rfl) va (.atom (.sl va k)) (sl_sv _ _ hva) (says_if (decide ((l.length : Int) ≥ (k : Int))) (by kernel_rfl) fun hb => fun w _ => run_valS ((hA (by simpa using hb)).2 w)) ?_
  refine GD.sem 26 (m := valS (Instr.sliceAt 22 v none (some (.int .i64 k)) none)) (dst := some 31) (g := some (13, true)) (by kernel_rfl) (by kernel_rfl) vb (.atom (.sl vb k)) (sl_sv _ _ hvb) (says_of fun w _ => run_valS ((hB hk).2 w)) ?_
  refine GD.run (by kernel_rfl) 50 ?_
  refine GD.one 27 (by kernel_rfl) (GDop.callGV (f := 15) (svs := [.atom (.sl va k), .atom (.sl vb k)]) (dd := 32) (tg := 13) (want := true) (by kernel_rfl) [va, vb] (.bool (decide (l.take k = o.take k))) (by kernel_rfl) (by kernel_rfl) (by kernel_rfl)
    (says_if (decide ((l.length : Int) ≥ (k : Int))) (by kernel_rfl) fun hb => fun w hw => f15_ok (hA (by simpa using hb)).1 (hB hk).1 hw) ?_)
  refine GD.run (by kernel_rfl) 50 ?_
  refine GD.fin (by kernel_rfl) ?_
  refine G.runE tm 100 ?_
  exact G.ret Try.func129 Try.results129 (.bool (decide ((l.length : Int) ≥ (k : Int)) && decide (l.take k = o.take k))) (by kernel_rfl) fun w' hf _ => ⟨by simp, hf.below⟩

theorem f85_ok {v u : Value} {l o : List Ent} (hr : RoR h rb cs) (h7 : cs[7]? = some (.sl v o.length)) (hv : EntsR h v o) (hu : EntsR h u l) (hs : Sub h w) :
    Calls Try.prog 85 #[.pointer (some ⟨rb, 0, none⟩), u] w fun e w' => e = .returned (.bool (decide (o.length < l.length) && decide (l.take o.length = o))) ∧ Below w.heap.size w w' := by
  obtain ⟨hf, hrun⟩ := hr.sl h7
  obtain ⟨va, hva, hA⟩ := SlR.headIf hu Try.underlying22 z34 o.length
  refine Calls.enter [.atom (.raw (.pointer (some ⟨rb, 0, none⟩))), .atom (.sl u l.length)] Try.func85 (c := bodyOf Try.f85) (by kernel_rfl) Try.ntmps85 ⟨⟨rfl, rfl⟩, SlR.sv hu _ _, trivial⟩ (by simp) hs ?_
  refine G.runE tm 100 ?_
  refine G.draw [] tm (by kernel_rfl) (by kernel_rfl) ?_
  refine GD.run (by kernel_rfl) 50 ?_
  refine GD.one 3 (by kernel_rfl) (GDop.callV (f := 99) (svs := [.atom (.raw (.pointer (some ⟨rb, 0, none⟩)))]) (dst := some 8) (by kernel_rfl) [.pointer (some ⟨rb, 0, none⟩)] (.int .i64 o.length) (by kernel_rfl) (by kernel_rfl) (by kernel_rfl) (by kernel_rfl) (fun w hw => f99_ok hr h7 hw) ?_)
  refine GD.run (by kernel_rfl) 50 ?_
  refine GD.sems [⟨14, ⟨valS (Instr.loadAt 22 (.pointer (some ⟨rb, 7, none⟩))), some 19, some (10, true)⟩, v, .atom (.sl v o.length)⟩] (by kernel_rfl) (semRows_cons ⟨by kernel_rfl, sl_sv _ _ hf, fun w hw => run_valS (hrun w hw)⟩ semRows_nil) 40 (by kernel_rfl) ?_
  refine GD.one 8 (by kernel_rfl) (GDop.callGV (f := 99) (svs := [.atom (.raw (.pointer (some ⟨rb, 0, none⟩)))]) (dd := 13) (tg := 10) (want := true) (by kernel_rfl) [.pointer (some ⟨rb, 0, none⟩)] (.int .i64 o.length) (by kernel_rfl) (by kernel_rfl) (by kernel_rfl) (says_of fun w hw => f99_ok hr h7 hw) ?_)
  refine GD.run (by kernel_rfl) 50 ?_
  refine GD.sem 9 (m := valS (Instr.sliceAt 22 u none (some (.int .i64 o.length)) none)) (dst := some 14) (g := some (10, true)) (by kernel_rfl) (by kernel_rfl) va (.atom (.sl va o.length)) (sl_sv _ _ hva) (says_if (decide ((l.length : Int) > (o.length : Int))) (by kernel_rfl) fun hb => fun w _ => run_valS ((hA (by simp at hb; omega)).2 w)) ?_
  refine GD.run (by kernel_rfl) 50 ?_
  refine GD.one 15 (by kernel_rfl) (GDop.callGV (f := 15) (svs := [.atom (.sl va o.length), .atom (.sl v o.length)]) (dd := 20) (tg := 10) (want := true) (by kernel_rfl) [va, v] (.bool (decide (l.take o.length = o))) (by kernel_rfl) (by kernel_rfl) (by kernel_rfl)
    (says_if (decide ((l.length : Int) > (o.length : Int))) (by kernel_rfl) fun hb => fun w hw => f15_ok (hA (by simp at hb; omega)).1 hv hw) ?_)
  refine GD.run (by kernel_rfl) 50 ?_
  refine GD.fin (by kernel_rfl) ?_
  refine G.runE tm 100 ?_
  exact G.ret Try.func85 Try.results85 (.bool (decide ((l.length : Int) > (o.length : Int)) && decide (l.take o.length = o))) (by kernel_rfl) fun w' hf _ => ⟨by simp, hf.below⟩
end ro
end Go.Proofs.Ytkjahaoobdbffaa

/- The base of this seat's proofs, twenty-fourth part: calls of functions that only read a block that the caller knows. -/
namespace Go.Proofs.Ytkjahaoobdbffaa
open Go Go.RowKit

def rdp (rb : Nat) : Value := .pointer (some ⟨rb, 0, none⟩)

theorem rdArgs {hE : GH} {w0 : World} {inc : List Nat} {n : Nat} {s : S} {h : GH} {β : Nat → Nat} {w : World} {tmps : Array Value} (hS : Sim hE w0 inc n s h β w tmps) {k : Nat} {bi : Option Nat} {T : TypeId} {cs : List Cell} (hb : bx k s.boxes = some ⟨bi, .lit T cs⟩) {svs : List SV1} {vals : List Value} (hv : svVals svs = some vals) {l : List Value} (hl : SV1sOk s.nb β (.atom (.ptr k 0) :: svs) l) :
    l = rdp (β k) :: vals ∧ RoR (fun b => w.heap[b]?) (β k) cs ∧ GLe h (fun b => w.heap[b]?) := by
  obtain ⟨arr, h1, h2⟩ := hS.box k _ hb
  refine ⟨?_, ⟨arr, T, (0, 0), _, _, h1, h2⟩, fun b o ho => hS.ghost b o ho⟩
  match l, hl with
  | y :: ys, hl =>
    have h3 := hl.1
    simp only [SV1Ok, CellOk] at h3
    rw [h3.1, svVals_ok hv hl.2]
    rfl

theorem G.callRo {C : Ctx} {h : GH} {c : Cfg} {f : FuncId} {svs : List SV1} {d : Option Nat} {k : Nat} (hc : callView c = some ⟨f, .atom (.ptr k 0) :: svs, d, none⟩) {bi : Option Nat} {T : TypeId} {cs : List Cell} (hb : bx k c.s.boxes = some ⟨bi, .lit T cs⟩) (vals : List Value) (v : Value) (hv : svVals svs = some vals) (he : enters C.P f = true) (hd : dstOk C.n d = true)
    (hcall : ∀ rb h' w, GLe h h' → RoR h' rb cs → Sub h' w → Calls C.P f (rdp rb :: vals).toArray w fun e w' => e = .returned v ∧ Below w.heap.size w w') (hk : G C h (afterOp c (.ofV v))) : G C h c := by
  refine G.callX hc he hd fun β w tmps l hS hl => ?_
  obtain ⟨rfl, h1, h2⟩ := rdArgs hS hb hv hl
  refine (hcall (β k) _ w h2 h1 (subSelf w)).mono ?_
  rintro e w' ⟨rfl, hbl⟩
  exact ⟨v, rfl, h, c.s, β, .ofV v, hS.grow (.of_below hS.sub hbl), fun tmps' => SVofV_ok _ _ _ _, hk⟩

theorem GDop.callRo {C : Ctx} {h0 h : GH} {ops : Array Oper} {kk : List Item} {ks : List Nat} {d : DCfg} {i : Nat} {f : FuncId} {svs : List SV1} {dst : Option Nat} {k : Nat} (hc : callAtD ops d i = some ⟨f, .atom (.ptr k 0) :: svs, dst, none⟩) {bi : Option Nat} {T : TypeId} {cs : List Cell} (hb : bx k d.s.boxes = some ⟨bi, .lit T cs⟩) (vals : List Value) (v : Value) (hv : svVals svs = some vals) (he : enters C.P f = true) (hd : dstOk C.n dst = true) (hlv : liveAll ks d.s = true)
    (hcall : ∀ rb h' w, GLe h h' → RoR h' rb cs → Sub h' w → Calls C.P f (rdp rb :: vals).toArray w fun e w' => e = .returned v ∧ Below w.heap.size w w') (hk : GD C h0 h ops kk ks (afterN ops d i d.s (.ofV v))) : GDop C h0 h ops kk ks d i := by
  refine GDop.callX hc he hd fun β w tmps l hS hl => ?_
  obtain ⟨rfl, h1, h2⟩ := rdArgs hS hb hv hl
  refine (hcall (β k) _ w h2 h1 (subSelf w)).mono ?_
  rintro e w' ⟨rfl, hbl⟩
  refine ⟨v, rfl, h, d.s, β, .ofV v, hS.grow (.of_below hS.sub hbl), fun tmps' => SVofV_ok _ _ _ _, GLe.refl h, fun x hx => ?_, hk⟩
  obtain ⟨b, hbx⟩ := liveAll_ok hlv x hx
  exact ⟨rfl, hbl.block _ (hS.box x b hbx).lt, b, hbx⟩

theorem G.callGRo {C : Ctx} {h : GH} {c : Cfg} {f : FuncId} {svs : List SV1} {d tg : Nat} {want : Bool} {k : Nat} (hc : callView c = some ⟨f, .atom (.ptr k 0) :: svs, some d, some (tg, want)⟩) {bi : Option Nat} {T : TypeId} {cs : List Cell} (hb : bx k c.s.boxes = some ⟨bi, .lit T cs⟩) (vals : List Value) (v : Value) (hv : svVals svs = some vals) (he : enters C.P f = true)
    (hd : (Nat.blt d C.n && Nat.blt tg C.n && !(Nat.beq tg d)) = true) 
    (hcall : guardSays c.s (some (tg, want)) (∀ rb h' w, GLe h h' → RoR h' rb cs → Sub h' w → Calls C.P f (rdp rb :: vals).toArray w fun e w' => e = .returned v ∧ Below w.heap.size w w')) (hk : G C h (afterOp c (.gd tg want (.ofV v)))) : G C h c := by
  intro β w tmps hS
  obtain ⟨todo, s⟩ := c
  simp only [Bool.and_eq_true, Bool.not_eq_true'] at hd
  have hd1 : d < C.n := Nat.le_of_ble_eq_true hd.1.1
  have htg : tg < C.n := Nat.le_of_ble_eq_true hd.1.2
  have hne : d ≠ tg := fun e => by have := hd.2; rw [e, Nat.beq_refl] at this; cases this
  unfold callView at hc
  simp only at hc
  split at hc
  · rename_i ops i rest kk
    split at hc
    · rename_i o ho
      split at hc
      · rename_i x args types hop
        split at hc
        · split at hc
          · simp at hc
          · simp at hc
        · rename_i j want' hg
          split at hc
          · rename_i tg' hj
            split at hc
            · rename_i f' a b' vs hx hv'
              simp only [Option.some.injEq, CallView.mk.injEq, Prod.mk.injEq] at hc
              obtain ⟨rfl, hsv, hdst, rfl, rfl⟩ := hc
              have hwi := wanted_of (tmps := tmps) hg hj (by rw [hS.size]; exact htg)
              by_cases hwt : Region.wanted o (yielded ops tmps) = true
              · have htrue := hwi.1 hwt
                obtain ⟨l, hl, hrun⟩ := run_callS hS (chain_ok hS 4 tg' want' htrue) hop hx hv' he
                rw [hsv] at hl
                refine Reach.call ho hwt hrun ?_
                obtain ⟨rfl, hr1, hr2⟩ := rdArgs hS hb hv hl
                refine (guardSays_use hS hcall htrue (β k) _ w hr2 hr1 (subSelf w)).mono ?_
                rintro e w' ⟨rfl, h2⟩
                refine ⟨v, rfl, ?_⟩
                rw [put_tmps, hdst]
                have := hk β w' (tmps.setIfInBounds d v)
                simp only [afterOp, ho, Option.bind_some, hdst] at this
                refine this ((hS.grow (.of_below hS.sub h2)).put hd1 (.inl ⟨?_, SV1ofV_ok _ _ _⟩))
                rw [getD_set_other hne]; exact htrue
              · have hfalse : tmps.getD tg' undef ≠ .bool want' := fun e => hwt (hwi.2 e)
                refine Reach.unwanted ho (by simpa using hwt) ?_
                rw [put_tmps, hdst]
                have := hk β w (tmps.setIfInBounds d undef)
                simp only [afterOp, ho, Option.bind_some, hdst] at this
                refine this (hS.put hd1 (.inr ⟨?_, rfl⟩))
                rw [getD_set_other hne]; exact hfalse
            · simp at hc
          · simp at hc
      · simp at hc
    · simp at hc
  · simp at hc
end Go.Proofs.Ytkjahaoobdbffaa
