/- The codec as a reader of what it has written: entries, lists of entries, records. -/
import Derived.Test.YtkjahaoobdbffaaK18
namespace Go.Proofs.Ytkjahaoobdbffaa
open Go Go.RowKit
attribute [local irreducible] G GD GDop

theorem el22 : ElT Try.prog 22 34 9 104 := .of Try.underlying22 (by kernel_rfl) (by decide)

/-- An entry that is small enough to be read again. -/
structure entOk (e : Ent) : Prop where
  ns : ∀ n ∈ entNs e, numOk n
  put : ∀ r ∈ e.put, rulOk r
  drop : ∀ n ∈ e.drop, numOk n
  lp : e.put.length ≤ 1000000
  ld : e.drop.length ≤ 1000000

theorem inR_iff {lo hi n : Int} : inR lo hi n = true ↔ lo ≤ n ∧ n ≤ hi := by simp [inR]

theorem rulOk_of {r : Rul} (h : rulRight r = true) : rulOk r := by
  simp only [rulRight, Bool.and_eq_true, decide_eq_true_eq] at h
  unfold rulOk numOk
  omega

theorem entOk_of {e : Ent} (h : entRight e = true) : entOk e := by
  simp only [entRight, Bool.and_eq_true, inR_iff, decide_eq_true_eq, Bool.not_eq_true', List.any_eq_false] at h
  refine ⟨?_, ?_, ?_, by omega, by omega⟩
  · simp only [entNs, List.mem_cons, List.not_mem_nil, or_false, forall_eq_or_imp, forall_eq]
    unfold numOk; omega
  · intro r hr
    exact rulOk_of (by have := h.1.2 r hr; simpa using this)
  · intro n hn
    have h3 : inR 1 1099511627776 n = true := by have := h.2 n hn; simpa using this
    rw [inR_iff] at h3
    unfold numOk; omega

theorem SlR.hide1 {α : Type} {hc : GH} {R : List Value → α → Prop} {v : Value} {l : List α} (hs : SlR hc 1 R v l) {β : Nat → Nat} {ro : List Nat} (hk : ∀ k ∈ ro, ∃ u T fr, hc (β k) = some (.cells #[u] T fr) ∧ ∀ x, ¬ R [u] x) : SlR (hideH β ro hc) 1 R v l := by
  obtain ⟨ao, cap, h1, h2, h3, h4⟩ := hs
  refine ⟨ao, cap, h1, h2, h3, ?_⟩
  rcases h4 with h4 | ⟨b, off, arr, T, fr, e1, e2, e3, e4⟩
  · exact .inl h4
  · by_cases hl : l = []
    · exact .inl hl
    · refine .inr ⟨b, off, arr, T, fr, e1, ?_, e3, e4⟩
      unfold hideH
      rw [if_neg]
      · exact e2
      · intro hh
        obtain ⟨k, hk1, hk2⟩ := List.any_eq_true.1 hh
        obtain ⟨u, T', fr', h5, h6⟩ := hk k hk1
        rw [Nat.eq_of_beq_eq_true hk2, e2] at h5
        simp only [Option.some.injEq, Obj.cells.injEq] at h5
        obtain ⟨rfl, -, -⟩ := h5
        match l, hl with
        | x :: l, _ =>
          simp only [List.length_cons, List.size_toArray, List.length_nil] at e3
          have h0 : off = 0 := by omega
          subst h0
          exact h6 x (by have := e4 0 x rfl; simpa using this)

def zEnt : Ent := ⟨0, 0, 0, 0, 0, 0, 0, [], []⟩

section r
variable {h : GH} {w : World}

set_option maxHeartbeats 2000000 in
theorem f120r_ok {b tb : Nat} {dv : Value} {xs rest : List Value} {pos : Nat} {e : Ent} (hd : BytesR h dv xs) (he : entOk e) (hx : xs.drop pos = entB e ++ rest) (hm : MemOk h w (enM b tb dv xs.length pos (eC zEnt nilS 0 nilS 0))) (hs : Sub h w) :
    Calls Try.prog 120 #[.pointer (some ⟨b, 0, none⟩), .pointer (some ⟨tb, 0, none⟩)] w fun en w' => ∃ p d h', en = .returned (.tuple #[]) ∧ Mend h w (enM b tb dv xs.length pos (eC zEnt nilS 0 nilS 0)) h' w' (enM b tb dv xs.length (pos + (entB e).length) (eC e p e.put.length d e.drop.length)) ∧ SlR h' 5 RulR p e.put ∧ SlR h' 1 IntR d e.drop := by
  rw [entB, List.append_assoc, List.append_assoc] at hx
  have hx2 := (drop_step hx).1
  have hx3 := (drop_step hx2).1
  have h42 : ((entNs e).flatMap numV).length = 42 := by rw [flat_len]; rfl
  rw [h42] at hx2 hx3
  have hnum : numOk e.view ∧ numOk e.client ∧ numOk e.request ∧ numOk e.dflt ∧ numOk e.closed ∧ numOk e.fuel ∧ numOk e.stack := by
    have := he.ns
    simpa [entNs] using this
  refine Calls.enterM (enM b tb dv xs.length pos (eC zEnt nilS 0 nilS 0)) [.atom (.ptr 0 0), .atom (.ptr 1 0)] Try.func120 (c := bodyOf Try.f120) (by kernel_rfl) Try.ntmps120 (by kernel_rfl) hm ⟨⟨rfl, Nat.zero_lt_two⟩, ⟨rfl, Nat.one_lt_two⟩, trivial⟩ (by simp) hs ?_
  refine G.runE tm 100 ?_
  refine G.rebox 1 (b := ⟨some tb, .lit 34 (eC zEnt nilS 0 nilS 0)⟩) (x := .obj (.cells (entA zEnt nilS nilS) 34 (0, 0))) (by kernel_rfl) (fun β w hh => BoxOk.toObj (vs := (entA zEnt nilS nilS).toList) rfl hh) ?_
  refine G.draw [2] tm (by kernel_rfl) (by kernel_rfl) ?_
  refine GD.run (by kernel_rfl) 60 ?_
  refine GD.one 27 (by kernel_rfl) (GDop.callRd 0 1 [3] (f := 118) (svs := [.atom (.ptr 0 0), .atom (.bsl 3 0 7 7)]) (d := some 31) (by kernel_rfl) (by kernel_rfl) (by kernel_rfl) (T := 34) (dv := dv) (n := xs.length) (pos := pos) (arr := entA zEnt nilS nilS) (by kernel_rfl) (by kernel_rfl) (by kernel_rfl) (by kernel_rfl)
    (pos' := pos + 42) (arr' := entA { e with put := [], drop := [] } nilS nilS) (r := .tuple #[]) (fun β w tmps l hS hl hsub hmem => ?_) ?_)
  · obtain ⟨a1, a2, rfl, ⟨rfl, -⟩, ⟨rfl, -⟩⟩ := args2 hl
    exact f118r_ok (ps := [(0, e.view), (1, e.client), (2, e.request), (3, e.dflt), (4, e.closed), (5, e.fuel), (6, e.stack)]) (rest := rulsB e.put ++ (intsB e.drop ++ rest)) (SlR.mono hd (hS.roLe [3]) fun _ _ h => h)
      (hS.ptrsTo (ro := [3]) (q := 3) (kt := 1) (bi := none) (T := 171) (ps := [(0, e.view), (1, e.client), (2, e.request), (3, e.dflt), (4, e.closed), (5, e.fuel), (6, e.stack)]) (by kernel_rfl) (by simp) (by simp))
      (by obtain ⟨h1, h2, h3, h4, h5, h6, h7⟩ := hnum; simp [h1, h2, h3, h4, h5, h6, h7, entA]) (by simpa [entNs] using hx) hmem hsub
  refine GD.run (by kernel_rfl) 50 ?_
  refine GD.fin (by kernel_rfl) ?_
  refine G.rebox 1 (b := ⟨some tb, .obj (.cells (entA { e with put := [], drop := [] } nilS nilS) 34 (0, 0))⟩) (x := .lit 34 (eC e nilS 0 nilS 0)) (by kernel_rfl)
    (fun β w hh => BoxOk.toLit (cs := eC e nilS 0 nilS 0) (show CellsOk _ _ (eC e nilS 0 nilS 0) (entA { e with put := [], drop := [] } nilS nilS).toList from ⟨rfl, rfl, rfl, rfl, rfl, rfl, rfl, ⟨rfl, _, _, rfl⟩, ⟨rfl, _, _, rfl⟩, trivial⟩) hh) ?_
  refine G.runE tm 100 ?_
  refine G.draw [2] tm (by kernel_rfl) (by kernel_rfl) ?_
  refine GD.run (by kernel_rfl) 60 ?_
  refine GD.one 7 (by kernel_rfl) (GDop.callM [0, 1] [] [] (f := 145) (svs := [.atom (.ptr 0 0), .atom (.ptr 1 7), .atom (.int .i64 30), .atom (.clo 146 true 0 0)]) (d := some 39) (by kernel_rfl) (by kernel_rfl) (by kernel_rfl) (bs := [rdB dv xs.length (pos + 42), .lit 34 (eC e nilS 0 nilS 0)]) (os := []) (by kernel_rfl) (by kernel_rfl) (by kernel_rfl) (by kernel_rfl) (by kernel_rfl)
    (fun h' v bs os => v = .tuple #[] ∧ ∃ p, bs = [rdB dv xs.length (pos + 42 + (rulsB e.put).length), .lit 34 (eC e p e.put.length nilS 0)] ∧ os = [] ∧ SlR h' 5 RulR p e.put) (fun β w tmps l hS hl hsub hmem => ?_) ?_)
  · obtain ⟨a1, a2, a3, a4, rfl, ⟨rfl, -⟩, ⟨rfl, -⟩, rfl, ⟨rfl, -⟩⟩ := args4 hl
    refine (f145r_ok (b := β 0) (tb := β 1) (pos := pos + 42) (e := e) (l := e.put) (SlR.mono hd (hS.roLe []) fun _ _ h => h) he.put he.lp hx2 hmem hsub).mono ?_
    rintro en w' ⟨p, h', rfl, hmend, hp⟩
    exact ⟨_, [rdB dv xs.length (pos + 42 + (rulsB e.put).length), .lit 34 (eC e p e.put.length nilS 0)], [], _, rfl, rfl, rfl, hmend, rfl, p, rfl, rfl, by rw [hideH_nil]; exact hp⟩
  rintro h1 v bs os ⟨rfl, p, rfl, rfl, hp⟩ hle1
  refine ⟨.ofV (.tuple #[]), fun N β tmps => SVofV_ok N β tmps _, ?_⟩
  refine GD.run (by kernel_rfl) 50 ?_
  refine GD.fin (by kernel_rfl) ?_
  refine G.runE tm 100 ?_
  refine G.draw [2] tm (by kernel_rfl) (by kernel_rfl) ?_
  refine GD.run (by kernel_rfl) 60 ?_
  refine GD.one 6 (by kernel_rfl) (GDop.callM [0, 1] [] [2] (f := 147) (svs := [.atom (.ptr 0 0), .atom (.ptr 1 8), .atom (.int .i64 6), .atom (.clo 148 false 2 0)]) (d := some 46) (by kernel_rfl) (by kernel_rfl) (by kernel_rfl) (bs := [rdB dv xs.length (pos + 42 + (rulsB e.put).length), .lit 34 (eC e p e.put.length nilS 0)]) (os := []) (by kernel_rfl) (by kernel_rfl) (by kernel_rfl) (by kernel_rfl) (by kernel_rfl)
    (fun h' v bs os => v = .tuple #[] ∧ ∃ d, bs = [rdB dv xs.length (pos + 42 + (rulsB e.put).length + (intsB e.drop).length), .lit 34 (eC e p e.put.length d e.drop.length)] ∧ os = [] ∧ SlR h' 1 IntR d e.drop) (fun β w tmps l hS hl hsub hmem => ?_) ?_)
  · obtain ⟨a1, a2, a3, a4, rfl, ⟨rfl, -⟩, ⟨rfl, -⟩, rfl, ⟨rfl, -⟩⟩ := args4 hl
    have hcb := hS.roPtr (ro := [2]) (k := 2) (j := 0) (off := 0) (bi := none) (T := 125) (by kernel_rfl) (by simp)
    refine (f147r_ok (b := β 0) (tb := β 1) (pos := pos + 42 + (rulsB e.put).length) (e := e) (l := e.drop) (SlR.mono hd (fun x o hh => hS.roLe [2] x o (hle1 x o hh)) fun _ _ h => h) he.drop he.ld hx3 hcb hmem hsub).mono ?_
    rintro en w' ⟨d, h', rfl, hmend, hp⟩
    refine ⟨_, [rdB dv xs.length (pos + 42 + (rulsB e.put).length + (intsB e.drop).length), .lit 34 (eC e p e.put.length d e.drop.length)], [], _, rfl, rfl, rfl, hmend, rfl, d, rfl, rfl, hp.hide1 fun k hk => ?_⟩
    simp only [List.mem_singleton] at hk; subst hk
    exact ⟨_, _, _, hmend.le _ _ hcb, fun x hx => by simp [IntR] at hx⟩
  rintro h2 v bs os ⟨rfl, d, rfl, rfl, hdd⟩ hle2
  refine ⟨.ofV (.tuple #[]), fun N β tmps => SVofV_ok N β tmps _, ?_⟩
  refine GD.run (by kernel_rfl) 50 ?_
  refine GD.fin (by kernel_rfl) ?_
  refine G.runE tm 100 ?_
  exact G.retM (enM b tb dv xs.length pos (eC zEnt nilS 0 nilS 0)) Try.func120 Try.results120 (.tuple #[]) (by kernel_rfl) rfl (enM b tb dv xs.length (pos + 42 + (rulsB e.put).length + (intsB e.drop).length) (eC e p e.put.length d e.drop.length)) (nb := 2) (no := 0) (by kernel_rfl) (by kernel_rfl) rfl
    fun w' hg => ⟨p, d, h2, rfl, by rw [entB, List.length_append, List.length_append, h42, show pos + (42 + ((rulsB e.put).length + (intsB e.drop).length)) = pos + 42 + (rulsB e.put).length + (intsB e.drop).length by omega]; exact hg, hp.mono hle2 fun _ _ h => h, hdd⟩

def rcC (m : Rcd) (p : Value) (np : Nat) : List Cell := [.int .i64 m.kind, .int .i64 m.a, .int .i64 m.b, .sl p np]
def rcM (b tb : Nat) (dv : Value) (n pos : Nat) (cs : List Cell) : Mem := ⟨[(b, rdB dv n pos), (tb, .lit 110 cs)], []⟩
theorem entB_len (e : Ent) : 54 ≤ (entB e).length := by
  rw [entB, List.length_append, List.length_append, flat_len, rulsB, intsB, List.length_append, List.length_append, numV_len, numV_len]; simp only [entNs, List.length_cons, List.length_nil]; omega

set_option maxHeartbeats 1000000 in
theorem f119r_ok {b tb : Nat} {dv : Value} {xs rest : List Value} {pos : Nat} {m : Rcd} {l : List Ent} (hd : BytesR h dv xs) (hr : ∀ e ∈ l, entOk e) (hn : l.length ≤ 1000000) (hx : xs.drop pos = entsB l ++ rest) (hm : MemOk h w (rcM b tb dv xs.length pos (rcC m nilS 0))) (hs : Sub h w) :
    Calls Try.prog 119 #[.pointer (some ⟨b, 0, none⟩), .pointer (some ⟨tb, 3, none⟩), .int .i64 54, .func (.func 120) #[.pointer (some ⟨b, 0, none⟩)] #[]] w fun en w' => ∃ p h', en = .returned (.tuple #[]) ∧ Mend h w (rcM b tb dv xs.length pos (rcC m nilS 0)) h' w' (rcM b tb dv xs.length (pos + (entsB l).length) (rcC m p l.length)) ∧ EntsR h' p l := by
  rw [entsB, List.append_assoc] at hx
  have hx2 := (drop_step hx).1
  rw [numV_len] at hx2
  have hfl : 54 * l.length ≤ (l.flatMap entB).length := by
    clear hx hx2 hn hr
    induction l with
    | nil => simp
    | cons a l ih => have := entB_len a; simp only [List.flatMap_cons, List.length_append, List.length_cons]; omega
  refine Calls.enterM (rcM b tb dv xs.length pos (rcC m nilS 0)) [.atom (.ptr 0 0), .atom (.ptr 1 3), .atom (.int .i64 54), .atom (.clo 120 true 0 0)] Try.func119 (c := bodyOf Try.f119) (by kernel_rfl) Try.ntmps119 (by kernel_rfl) hm
    ⟨⟨rfl, Nat.zero_lt_two⟩, ⟨rfl, Nat.one_lt_two⟩, rfl, ⟨rfl, Nat.zero_lt_two⟩, trivial⟩ (by simp) hs ?_
  refine G.runE tm 100 ?_
  refine G.callR1 0 [] (f := 144) (svs := [.atom (.ptr 0 0), .atom (.int .i64 0), .atom (.int .i64 54)]) (d := some 19) (by kernel_rfl) (by kernel_rfl) (by kernel_rfl) (dv := dv) (n := xs.length) (pos := pos) (by kernel_rfl) (by kernel_rfl)
    (pos' := pos + 6) (r := .int .i64 l.length) (fun β w tmps l' hS hl hsub hmem => ?_) ?_
  · obtain ⟨a1, a2, a3, rfl, ⟨rfl, -⟩, rfl, rfl⟩ := args3 hl
    exact f144r_ok (SlR.mono hd (hS.roLe []) fun _ _ h => h) (by omega) (by decide) hx (by rw [List.length_append]; omega) hmem hsub
  refine G.runE tm 100 ?_
  refine G.condF (b := false) (by kernel_rfl) rfl ?_
  refine G.runE tm 100 ?_
  refine G.ownNil 0 34 9 ?_
  refine G.loop (α := Nat × Value × List Value × Nat)
    (fun x => ⟨[(0, .one (.atom (.ptr 0 0))), (1, .one (.atom (.ptr 1 3))), (3, .one (.atom (.clo 120 true 0 0))), (8, .one (.atom (.int .i64 l.length))), (11, .one (.atom (.int .i64 x.1)))],
      [(0, ⟨some b, rdB dv xs.length x.2.2.2⟩), (1, ⟨some tb, .lit 110 (rcC m x.2.1 x.1)⟩)], 2, [(0, ⟨34, 9, x.2.1, x.1, x.2.2.1⟩)]⟩)
    (fun x g => GLe h g ∧ x.1 ≤ l.length ∧ ListR 9 (EntR g) x.2.2.1 (l.take x.1) ∧ x.2.2.2 = pos + 6 + ((l.take x.1).flatMap entB).length) (fun x => l.length - x.1) (0, nilS, [], pos + 6) [0, 1, 3, 8, 11] [0, 1] 2 [0] (by kernel_rfl) (by kernel_rfl) (by kernel_rfl)
      ⟨GLe.refl h, Nat.zero_le _, by simpa using ListR.nil, by simp⟩ ?_
  rintro ⟨i, u, ys, q⟩ g ⟨hle, hi, hys, hq⟩ IH
  simp only at hi hys hq
  refine G.runE tm 100 ?_
  refine G.cond (decide ((i : Int) < (l.length : Int)) && !false) (by kernel_rfl) (fun hc => ?_) (fun hc => ?_)
  · have hlt : i < l.length := by simpa using hc
    obtain ⟨r, hri⟩ := get_of_lt hlt
    have hxr := drop_flat hx2 hri
    rw [← hq] at hxr
    refine G.runE tm 100 ?_
    refine G.callM [0, 2] [] [] (f := 120) (svs := [.atom (.ptr 0 0), .atom (.ptr 2 0)]) (d := some 48) (by kernel_rfl) (by kernel_rfl) (by kernel_rfl) (bs := [rdB dv xs.length q, .lit 34 (eC zEnt nilS 0 nilS 0)]) (os := []) (by kernel_rfl) (by kernel_rfl) (by kernel_rfl)
      (fun h' v bs os => v = .tuple #[] ∧ os = [] ∧ ∃ p d, bs = [rdB dv xs.length (q + (entB r).length), .lit 34 (eC r p r.put.length d r.drop.length)] ∧ SlR h' 5 RulR p r.put ∧ SlR h' 1 IntR d r.drop) (fun β w tmps l' hS hl hsub hmem => ?_) ?_
    · obtain ⟨a1, a2, rfl, ⟨rfl, -⟩, ⟨rfl, -⟩⟩ := args2 hl
      refine (f120r_ok (b := β 0) (tb := β 2) (pos := q) (e := r) (SlR.mono hd (fun x o hh => hS.roLe [] x o (hle x o hh)) fun _ _ h => h) (hr r (List.mem_of_getElem? hri)) hxr hmem hsub).mono ?_
      rintro en w' ⟨p, d, h', rfl, hmend, hp, hdd⟩
      exact ⟨_, [rdB dv xs.length (q + (entB r).length), .lit 34 (eC r p r.put.length d r.drop.length)], [], _, rfl, rfl, rfl, hmend, rfl, rfl, p, d, rfl, by rw [hideH_nil]; exact hp, by rw [hideH_nil]; exact hdd⟩
    rintro h' v bs os ⟨rfl, rfl, p, d, rfl, hp, hdd⟩ hgg
    refine ⟨.ofV (.tuple #[]), fun N β tmps => SVofV_ok N β tmps _, ?_⟩
    refine G.runE tm 100 ?_
    refine G.draw [2] tm (by kernel_rfl) (by kernel_rfl) ?_
    refine GD.autoN (by kernel_rfl) 10 2 (by kernel_rfl) (by kernel_rfl) ?_
    refine GD.one 6 (by kernel_rfl) (GDop.appLit (T := 22) (v := u) (m := i) (xs := ys) (kx := 3) (q := 1) (q' := 1) (d := some 55) el22 0 (by kernel_rfl) (by kernel_rfl) (by kernel_rfl) (bi := none) (e' := 34) (cs := eC r p r.put.length d r.drop.length) (by kernel_rfl)
      (news := (entA r p d).toList) (by kernel_rfl) rfl (by omega) (by omega) fun u' _ => ?_)
    refine GD.run (by kernel_rfl) 50 ?_
    refine GD.fin (by kernel_rfl) ?_
    refine G.runE tm 100 ?_
    refine G.reint (k := .i64) (a := IntKind.i64.wrap ((i : Int) + 1)) (b := ((i + 1 : Nat) : Int)) 11 (by kernel_rfl) (by rw [IntWalk.i64_in _ (by omega)]; rfl) ?_
    refine G.back (by kernel_rfl) [0, 1, 3, 8, 11] [0, 1] 2 [0] (by kernel_rfl) (by kernel_rfl) (IH (i + 1, u', ys ++ (entA r p d).toList, q + (entB r).length) _ ⟨hle.trans hgg, hlt, ?_, ?_⟩ (by simp only; omega))
    · simp only; rw [List.take_add_one, hri]; exact (hys.mono fun _ _ h => h.mono hgg).snoc rfl (EntR.mk hp hdd)
    · simp only; rw [flat_snoc hri, List.length_append]; omega
  · obtain rfl : i = l.length := by simp at hc; omega
    rw [List.take_length] at hys hq
    refine G.runE tm 100 ?_
    refine G.freeze 0 (e := 34) (sz := 9) (v := u) (m := l.length) (xs := ys) (by kernel_rfl) fun h' hle' hf _ => ?_
    have hv := SlR.of_freeze hf (hys.mono fun _ _ h => h.mono hle') rfl (by omega)
    exact G.retM (rcM b tb dv xs.length pos (rcC m nilS 0)) Try.func119 Try.results119 (.tuple #[]) (by kernel_rfl) rfl (rcM b tb dv xs.length q (rcC m u l.length)) (nb := 2) (no := 0) (by kernel_rfl) (by kernel_rfl) rfl
      fun w' hg => ⟨u, h', rfl, by rw [entsB, List.length_append, numV_len, show pos + (6 + (l.flatMap entB).length) = q by omega]; exact hg, hv⟩

/-- A record that is small enough to be read again. -/
structure rcdOk (m : Rcd) : Prop where
  ns : numOk m.kind ∧ numOk m.a ∧ numOk m.b
  log : ∀ e ∈ m.log, entOk e
  ll : m.log.length ≤ 1000000

def zRcd : Rcd := ⟨0, 0, 0, []⟩

set_option maxHeartbeats 1000000 in
theorem f112r_ok {b tb : Nat} {dv : Value} {xs rest : List Value} {pos : Nat} {m : Rcd} (hd : BytesR h dv xs) (hr : rcdOk m) (hx : xs.drop pos = rcdB m ++ rest) (hm : MemOk h w (rcM b tb dv xs.length pos (rcC zRcd nilS 0))) (hs : Sub h w) :
    Calls Try.prog 112 #[.pointer (some ⟨b, 0, none⟩), .pointer (some ⟨tb, 0, none⟩)] w fun en w' => ∃ p h', en = .returned (.tuple #[]) ∧ Mend h w (rcM b tb dv xs.length pos (rcC zRcd nilS 0)) h' w' (rcM b tb dv xs.length (pos + (rcdB m).length) (rcC m p m.log.length)) ∧ EntsR h' p m.log := by
  rw [rcdB, List.append_assoc] at hx
  have hx2 := (drop_step hx).1
  have h18 : ((rcdNs m).flatMap numV).length = 18 := by rw [flat_len]; rfl
  rw [h18] at hx2
  refine Calls.enterM (rcM b tb dv xs.length pos (rcC zRcd nilS 0)) [.atom (.ptr 0 0), .atom (.ptr 1 0)] Try.func112 (c := bodyOf Try.f112) (by kernel_rfl) Try.ntmps112 (by kernel_rfl) hm ⟨⟨rfl, Nat.zero_lt_two⟩, ⟨rfl, Nat.one_lt_two⟩, trivial⟩ (by simp) hs ?_
  refine G.runE tm 100 ?_
  refine G.rebox 1 (b := ⟨some tb, .lit 110 (rcC zRcd nilS 0)⟩) (x := .obj (.cells (rcdA zRcd nilS) 110 (0, 0))) (by kernel_rfl) (fun β w hh => BoxOk.toObj (vs := (rcdA zRcd nilS).toList) rfl hh) ?_
  refine G.draw [] tm (by kernel_rfl) (by kernel_rfl) ?_
  refine GD.run (by kernel_rfl) 60 ?_
  refine GD.one 11 (by kernel_rfl) (GDop.callRd 0 1 [2] (f := 118) (svs := [.atom (.ptr 0 0), .atom (.bsl 2 0 3 3)]) (d := some 15) (by kernel_rfl) (by kernel_rfl) (by kernel_rfl) (T := 110) (dv := dv) (n := xs.length) (pos := pos) (arr := rcdA zRcd nilS) (by kernel_rfl) (by kernel_rfl) (by kernel_rfl) (by kernel_rfl)
    (pos' := pos + 18) (arr' := rcdA m nilS) (r := .tuple #[]) (fun β w tmps l hS hl hsub hmem => ?_) ?_)
  · obtain ⟨a1, a2, rfl, ⟨rfl, -⟩, ⟨rfl, -⟩⟩ := args2 hl
    exact f118r_ok (ps := [(0, m.kind), (1, m.a), (2, m.b)]) (rest := entsB m.log ++ rest) (SlR.mono hd (hS.roLe [2]) fun _ _ h => h)
      (hS.ptrsTo (ro := [2]) (q := 2) (kt := 1) (bi := none) (T := 171) (ps := [(0, m.kind), (1, m.a), (2, m.b)]) (by kernel_rfl) (by simp) (by simp))
      (by obtain ⟨h1, h2, h3⟩ := hr.ns; simp [h1, h2, h3, rcdA]) (by simpa [rcdNs] using hx) hmem hsub
  refine GD.run (by kernel_rfl) 50 ?_
  refine GD.fin (by kernel_rfl) ?_
  refine G.rebox 1 (b := ⟨some tb, .obj (.cells (rcdA m nilS) 110 (0, 0))⟩) (x := .lit 110 (rcC m nilS 0)) (by kernel_rfl)
    (fun β w hh => BoxOk.toLit (cs := rcC m nilS 0) (show CellsOk _ _ (rcC m nilS 0) (rcdA m nilS).toList from ⟨rfl, rfl, rfl, ⟨rfl, _, _, rfl⟩, trivial⟩) hh) ?_
  refine G.runE tm 100 ?_
  refine G.callM [0, 1] [] [] (f := 119) (svs := [.atom (.ptr 0 0), .atom (.ptr 1 3), .atom (.int .i64 54), .atom (.clo 120 true 0 0)]) (d := some 22) (by kernel_rfl) (by kernel_rfl) (by kernel_rfl) (bs := [rdB dv xs.length (pos + 18), .lit 110 (rcC m nilS 0)]) (os := []) (by kernel_rfl) (by kernel_rfl) (by kernel_rfl)
    (fun h' v bs os => v = .tuple #[] ∧ os = [] ∧ ∃ p, bs = [rdB dv xs.length (pos + 18 + (entsB m.log).length), .lit 110 (rcC m p m.log.length)] ∧ EntsR h' p m.log) (fun β w tmps l hS hl hsub hmem => ?_) ?_
  · obtain ⟨a1, a2, a3, a4, rfl, ⟨rfl, -⟩, ⟨rfl, -⟩, rfl, ⟨rfl, -⟩⟩ := args4 hl
    refine (f119r_ok (b := β 0) (tb := β 1) (pos := pos + 18) (m := m) (l := m.log) (SlR.mono hd (hS.roLe []) fun _ _ h => h) hr.log hr.ll hx2 hmem hsub).mono ?_
    rintro en w' ⟨p, h', rfl, hmend, hp⟩
    exact ⟨_, [rdB dv xs.length (pos + 18 + (entsB m.log).length), .lit 110 (rcC m p m.log.length)], [], _, rfl, rfl, rfl, hmend, rfl, rfl, p, rfl, by rw [hideH_nil]; exact hp⟩
  rintro h' v bs os ⟨rfl, rfl, p, rfl, hp⟩ hgg
  refine ⟨.ofV (.tuple #[]), fun N β tmps => SVofV_ok N β tmps _, ?_⟩
  refine G.runE tm 100 ?_
  exact G.retM (rcM b tb dv xs.length pos (rcC zRcd nilS 0)) Try.func112 Try.results112 (.tuple #[]) (by kernel_rfl) rfl (rcM b tb dv xs.length (pos + 18 + (entsB m.log).length) (rcC m p m.log.length)) (nb := 2) (no := 0) (by kernel_rfl) (by kernel_rfl) rfl
    fun w' hg => ⟨p, h', rfl, by rw [rcdB, List.length_append, h18, ← Nat.add_assoc]; exact hg, hp⟩

theorem f113_ok {b : Nat} {dv : Value} {n : Nat} (hn : n ≤ 65536) (hm : MemOk h w (rdM1 b dv n n)) (hs : Sub h w) :
    Calls Try.prog 113 #[.pointer (some ⟨b, 0, none⟩)] w fun e w' => e = .returned (.bool true) ∧ Mend h w (rdM1 b dv n n) h w' (rdM1 b dv n n) := by
  refine Calls.enterM (rdM1 b dv n n) [.atom (.ptr 0 0)] Try.func113 (c := bodyOf Try.f113) (by kernel_rfl) Try.ntmps113 (by kernel_rfl) hm ⟨⟨rfl, Nat.zero_lt_one⟩, trivial⟩ (by simp) hs ?_
  refine G.runE tm 100 ?_
  refine G.rebool 2 (a := (((n : Int) == (n : Int)) && decide ((n : Int) ≤ 65536))) (b := true) (by kernel_rfl) (by simp; omega) ?_
  refine G.runE tm 100 ?_
  exact G.retM (rdM1 b dv n n) Try.func113 Try.results113 (.bool true) (by kernel_rfl) rfl (rdM1 b dv n n) (nb := 1) (no := 0) (by kernel_rfl) (by kernel_rfl) rfl fun w' hg => ⟨rfl, hg⟩

theorem rcdOk_of {m : Rcd} (h : rcdRight m = true) : rcdOk m := by
  simp only [rcdRight, Bool.and_eq_true, inR_iff] at h
  obtain ⟨⟨⟨h1, h2⟩, h3⟩, h4⟩ := h
  refine ⟨by unfold numOk; omega, ?_, ?_⟩
  · intro e he
    split at h4
    · simp only [logged, Bool.and_eq_true, Bool.not_eq_true', List.any_eq_false] at h4
      exact entOk_of (by have := h4.2 e he; simpa using this)
    · have : m.log = [] := by simpa using h4
      rw [this] at he; simp at he
  · split at h4
    · simp only [logged, Bool.and_eq_true, decide_eq_true_eq] at h4; omega
    · have : m.log = [] := by simpa using h4
      rw [this]; simp

set_option maxHeartbeats 1000000 in
theorem f58_ok {dv : Value} {m : Rcd} (hd : BytesR h dv (rcdB m)) (hr : rcdRight m = true) (hn : (rcdB m).length ≤ 65536) (hs : Sub h w) :
    Calls Try.prog 58 #[dv] w fun e w' => ∃ p h', e = .returned (.tuple #[rcdV m p, .int .i64 0]) ∧ Grow h w h' w' ∧ EntsR h' p m.log := by
  refine Calls.enter [.atom (.sl dv (rcdB m).length)] Try.func58 (c := bodyOf Try.f58) (by kernel_rfl) Try.ntmps58 ⟨hd.sv _ _, trivial⟩ (by simp) hs ?_
  refine G.runE tm 100 ?_
  refine G.condT (b := decide (((rcdB m).length : Int) ≤ 65536)) (by kernel_rfl) (by simp; omega) ?_
  refine G.runE tm 100 ?_
  refine G.callM [1, 2] [] [] (f := 112) (svs := [.atom (.ptr 1 0), .atom (.ptr 2 0)]) (d := some 13) (by kernel_rfl) (by kernel_rfl) (by kernel_rfl) (bs := [rdB dv (rcdB m).length 0, .lit 110 (rcC zRcd nilS 0)]) (os := []) (by kernel_rfl) (by kernel_rfl) (by kernel_rfl)
    (fun h' v bs os => v = .tuple #[] ∧ os = [] ∧ ∃ p, bs = [rdB dv (rcdB m).length (rcdB m).length, .lit 110 (rcC m p m.log.length)] ∧ EntsR h' p m.log) (fun β w tmps l hS hl hsub hmem => ?_) ?_
  · obtain ⟨a1, a2, rfl, ⟨rfl, -⟩, ⟨rfl, -⟩⟩ := args2 hl
    refine (f112r_ok (b := β 1) (tb := β 2) (pos := 0) (m := m) (rest := []) (SlR.mono hd (hS.roLe []) fun _ _ h => h) (rcdOk_of hr) (by simp) hmem hsub).mono ?_
    rintro en w' ⟨p, h', rfl, hmend, hp⟩
    rw [Nat.zero_add] at hmend
    exact ⟨_, [rdB dv (rcdB m).length (rcdB m).length, .lit 110 (rcC m p m.log.length)], [], _, rfl, rfl, rfl, hmend, rfl, rfl, p, rfl, by rw [hideH_nil]; exact hp⟩
  rintro h' v bs os ⟨rfl, rfl, p, rfl, hp⟩ hgg
  refine ⟨.ofV (.tuple #[]), fun N β tmps => SVofV_ok N β tmps _, ?_⟩
  refine G.runE tm 100 ?_
  refine G.callR1 1 [] (f := 113) (svs := [.atom (.ptr 1 0)]) (d := some 15) (by kernel_rfl) (by kernel_rfl) (by kernel_rfl) (dv := dv) (n := (rcdB m).length) (pos := (rcdB m).length) (by kernel_rfl) (by kernel_rfl)
    (pos' := (rcdB m).length) (r := .bool true) (fun β w tmps l' hS hl hsub hmem => ?_) ?_
  · obtain ⟨a1, rfl, ⟨rfl, -⟩⟩ := args1 hl
    exact f113_ok hn hmem hsub
  refine G.runE tm 100 ?_
  refine G.callGV (f := 111) (svs := [.agg (rcdC m p)]) (d := 19) (tg := 17) (want := false) (by kernel_rfl) [rcdV m p] (.bool (rcdRight m)) (by kernel_rfl) (by kernel_rfl) (by kernel_rfl) (says_of fun w hs => f111_ok hp hs) ?_
  refine G.runE tm 100 ?_
  refine G.condF (b := !(rcdRight m)) (by kernel_rfl) (by rw [hr]; rfl) ?_
  refine G.runE tm 100 ?_
  exact G.retG Try.func58 Try.results58 (.tuple #[rcdV m p, .int .i64 0]) (by kernel_rfl) rfl fun w' hg => ⟨p, h', rfl, hg, hp⟩
end r
end Go.Proofs.Ytkjahaoobdbffaa
