/- The codec as a reader of what it has written: texts, rules. -/
import Derived.Test.YtkjahaoobdbffaaK16
import Derived.Test.YtkjahaoobdbffaaB16
namespace Go.Proofs.Ytkjahaoobdbffaa
open Go Go.RowKit
attribute [local irreducible] G GD GDop

theorem G.callR1 {C : Ctx} {h : GH} {c : Cfg} {f : FuncId} {svs : List SV1} {d : Option Nat} (kc : Nat) (ro : List Nat) (hc : callView c = some ⟨f, svs, d, none⟩) (he : enters C.P f = true) (hd : dstOk C.n d = true) {dv : Value} {n pos : Nat}
    (hb : pickB c.s.boxes [kc] = some [rdB dv n pos]) (hh : handOk c.s [kc] [] ro = true) {pos' : Nat} {r : Value}
    (hcall : ∀ β w tmps l, Sim C.hE C.w0 C.inc C.n c.s h β w tmps → SV1sOk c.s.nb β svs l → Sub (roH h β w ro) w → MemOk (roH h β w ro) w (rdM1 (β kc) dv n pos) → Calls C.P f l.toArray w fun e w' => e = .returned r ∧ Mend (roH h β w ro) w (rdM1 (β kc) dv n pos) (roH h β w ro) w' (rdM1 (β kc) dv n pos'))
    (hk : G C h (afterOp (withS c (putMem c.s [kc] [] [rdB dv n pos'] [])) (.ofV r))) : G C h c := by
  refine G.callM [kc] [] ro hc he hd hb (os := []) rfl hh (fun h' r' bs' os' => h' = h ∧ r' = r ∧ bs' = [rdB dv n pos'] ∧ os' = []) (fun β w tmps l hS hl hsub hmem => ?_) ?_
  · refine (hcall β w tmps l hS hl hsub hmem).mono ?_
    rintro e w' ⟨rfl, hm⟩
    simp only [handOk, Bool.and_eq_true] at hh
    exact ⟨r, [rdB dv n pos'], [], _, rfl, rfl, rfl, hm, hS.hideRo hh.1.2, rfl, rfl, rfl⟩
  · rintro h' r' bs' os' ⟨rfl, rfl, rfl, rfl⟩ -
    exact ⟨_, fun N β tmps => SVofV_ok N β tmps _, hk⟩

theorem drop_step {xs a rest : List Value} {pos : Nat} (hx : xs.drop pos = a ++ rest) : xs.drop (pos + a.length) = rest ∧ (a = [] ∨ pos + a.length + rest.length = xs.length) := by
  constructor
  · rw [← List.drop_drop, hx]; exact List.drop_left
  · have := congrArg List.length hx
    rw [List.length_drop, List.length_append] at this
    cases a with
    | nil => exact .inl rfl
    | cons y a => right; simp only [List.length_cons] at this ⊢; omega

def ruC (a b c d : Int) (s : ByteArray) : List Cell := [.int .i64 a, .int .i64 b, .int .i64 c, .int .i64 d, .str s]
def ruM (b tb : Nat) (dv : Value) (n pos : Nat) (cs : List Cell) : Mem := ⟨[(b, rdB dv n pos), (tb, .lit 114 cs)], []⟩

section r
variable {h : GH} {w : World}

set_option maxHeartbeats 2000000 in
theorem f151r_ok {b tb : Nat} {dv : Value} {xs rest : List Value} {pos : Nat} {a1 a2 a3 a4 : Int} {s0 t : ByteArray} (hd : BytesR h dv xs) (ht : (t.size : Int) ≤ 2 ^ 40) (hx : xs.drop pos = textV t ++ rest) (hm : MemOk h w (ruM b tb dv xs.length pos (ruC a1 a2 a3 a4 s0))) (hs : Sub h w) :
    Calls Try.prog 151 #[.pointer (some ⟨b, 0, none⟩), .pointer (some ⟨tb, 4, none⟩)] w fun e w' => e = .returned (.tuple #[]) ∧ Mend h w (ruM b tb dv xs.length pos (ruC a1 a2 a3 a4 s0)) h w' (ruM b tb dv xs.length (pos + 6 + t.size) (ruC a1 a2 a3 a4 t)) := by
  have hdl := SlR.len hd
  rw [textV, List.append_assoc] at hx
  obtain ⟨hx2, hl2⟩ := drop_step hx
  rw [numV_len] at hx2 hl2
  have hl2 : pos + 6 + (t.size + rest.length) = xs.length := by
    rcases hl2 with h0 | h0
    · have := congrArg List.length h0; rw [numV_len] at this; simp at this
    · rw [List.length_append, Lib.strCells_length] at h0; omega
  refine Calls.enterM (ruM b tb dv xs.length pos (ruC a1 a2 a3 a4 s0)) [.atom (.ptr 0 0), .atom (.ptr 1 4)] Try.func151 (c := bodyOf Try.f151) (by kernel_rfl) Try.ntmps151 (by kernel_rfl) hm ⟨⟨rfl, Nat.zero_lt_two⟩, ⟨rfl, Nat.one_lt_two⟩, trivial⟩ (by simp) hs ?_
  refine G.runE tm 100 ?_
  refine G.callR1 0 [] (f := 144) (svs := [.atom (.ptr 0 0), .atom (.int .i64 s0.size), .atom (.int .i64 1)]) (d := some 10) (by kernel_rfl) (by kernel_rfl) (by kernel_rfl) (dv := dv) (n := xs.length) (pos := pos) (by kernel_rfl) (by kernel_rfl)
    (pos' := pos + 6) (r := .int .i64 t.size) (fun β w tmps l hS hl hsub hmem => ?_) ?_
  · obtain ⟨a1, a2, a3, rfl, ⟨rfl, -⟩, rfl, rfl⟩ := args3 hl
    exact f144r_ok (SlR.mono hd (hS.roLe []) fun _ _ h => h) (by omega) (by decide) hx (by rw [List.length_append, Lib.strCells_length]; omega) hmem hsub
  refine G.runE tm 100 ?_
  refine G.condF (b := false) (by kernel_rfl) rfl ?_
  refine G.runE tm 100 ?_
  refine G.condT (b := true) (by kernel_rfl) rfl ?_
  refine G.runE tm 100 ?_
  refine G.draw [] tm (by kernel_rfl) (by kernel_rfl) ?_
  have hw6 : IntKind.i64.wrap (((pos + 6 : Nat) : Int) + (t.size : Int)) = ((pos + 6 + t.size : Nat) : Int) := by rw [IntWalk.i64_in _ (by omega)]; omega
  obtain ⟨cv, hcut, hrun⟩ := SlR.cut (P := Try.prog) (T := 40) (E := 5) hd Try.underlying40 z5 (lo := pos + 6) (hi := pos + 6 + t.size) (by omega) (by omega)
  rw [Nat.add_sub_cancel_left, hx2, List.take_left' (Lib.strCells_length t)] at hcut
  have hstr : ∀ w, Sub h w → (convert 40 9 cv).run Try.prog w = .ok (.string t) w := fun w hw => by
    have := BytesR.str (ns := t.data.toList.map fun b => (b.toNat : Int)) (v := cv) (by rw [List.map_map]; exact hcut) hw
    rw [bstr_cells] at this; exact this
  refine GD.finS [⟨16, ⟨valS (Instr.sliceAt 40 dv (some (.int .i64 ((pos + 6 : Nat) : Int))) (some (.int .i64 (IntKind.i64.wrap (((pos + 6 : Nat) : Int) + (t.size : Int))))) none), some 47, none⟩, cv, .atom (.sl cv t.size)⟩,
    ⟨17, ⟨valS (convert 40 9 cv), some 48, none⟩, .string t, .atom (.str t)⟩] (by kernel_rfl)
    (semRows_cons ⟨rfl, fun N β => by have := hcut.sv N β; rwa [Lib.strCells_length] at this, fun w _ => run_valS (by rw [hw6]; exact hrun w)⟩ (semRows_cons ⟨rfl, fun N β => rfl, fun w hw => run_valS (hstr w hw)⟩ semRows_nil)) 10 24
    [] [0, 1] 2 [] ⟨[], [(0, ⟨some b, .lit 127 [.sl dv xs.length, .int .i64 (IntKind.i64.wrap (((pos + 6 : Nat) : Int) + (t.size : Int))), .bool false, .bool false]⟩), (1, ⟨some tb, .lit 114 (ruC a1 a2 a3 a4 t)⟩)], 2, []⟩ (by kernel_rfl) (by kernel_rfl) (by kernel_rfl) ?_
  rw [hw6]
  refine G.runE tm 100 ?_
  exact G.retM (ruM b tb dv xs.length pos (ruC a1 a2 a3 a4 s0)) Try.func151 Try.results151 (.tuple #[]) (by kernel_rfl) rfl (ruM b tb dv xs.length (pos + 6 + t.size) (ruC a1 a2 a3 a4 t)) (nb := 2) (no := 0) (by kernel_rfl) (by kernel_rfl) rfl fun w' hg => ⟨rfl, hg⟩

/-- A rule that is small enough to be read again. -/
def rulOk (r : Rul) : Prop := numOk r.id ∧ numOk r.pri ∧ numOk r.act ∧ numOk r.sco ∧ (r.pat.size : Int) ≤ 2 ^ 40

theorem f146r_ok {b tb : Nat} {dv : Value} {xs rest : List Value} {pos : Nat} {r : Rul} (hd : BytesR h dv xs) (hr : rulOk r) (hx : xs.drop pos = rulB r ++ rest) (hm : MemOk h w (ruM b tb dv xs.length pos (ruC 0 0 0 0 ⟨#[]⟩))) (hs : Sub h w) :
    Calls Try.prog 146 #[.pointer (some ⟨b, 0, none⟩), .pointer (some ⟨tb, 0, none⟩)] w fun e w' => e = .returned (.tuple #[]) ∧ Mend h w (ruM b tb dv xs.length pos (ruC 0 0 0 0 ⟨#[]⟩)) h w' (ruM b tb dv xs.length (pos + (rulB r).length) (rulC r)) := by
  rw [rulB, List.append_assoc] at hx
  have hx2 := (drop_step hx).1
  rw [flat_len] at hx2
  refine Calls.enterM (ruM b tb dv xs.length pos (ruC 0 0 0 0 ⟨#[]⟩)) [.atom (.ptr 0 0), .atom (.ptr 1 0)] Try.func146 (c := bodyOf Try.f146) (by kernel_rfl) Try.ntmps146 (by kernel_rfl) hm ⟨⟨rfl, Nat.zero_lt_two⟩, ⟨rfl, Nat.one_lt_two⟩, trivial⟩ (by simp) hs ?_
  refine G.runE tm 100 ?_
  refine G.rebox 1 (b := ⟨some tb, .lit 114 (ruC 0 0 0 0 ⟨#[]⟩)⟩) (x := .obj (.cells #[.int .i64 0, .int .i64 0, .int .i64 0, .int .i64 0, .string ⟨#[]⟩] 114 (0, 0))) (by kernel_rfl) (fun β w hh => BoxOk.toObj rfl hh) ?_
  refine G.draw [] tm (by kernel_rfl) (by kernel_rfl) ?_
  refine GD.run (by kernel_rfl) 50 ?_
  refine GD.one 14 (by kernel_rfl) (GDop.callRd 0 1 [2] (f := 118) (svs := [.atom (.ptr 0 0), .atom (.bsl 2 0 4 4)]) (d := some 18) (by kernel_rfl) (by kernel_rfl) (by kernel_rfl) (T := 114) (dv := dv) (n := xs.length) (pos := pos) (arr := #[.int .i64 0, .int .i64 0, .int .i64 0, .int .i64 0, .string ⟨#[]⟩]) (by kernel_rfl) (by kernel_rfl) (by kernel_rfl) (by kernel_rfl)
    (pos' := pos + 24) (arr' := #[.int .i64 r.id, .int .i64 r.pri, .int .i64 r.act, .int .i64 r.sco, .string ⟨#[]⟩]) (r := .tuple #[]) (fun β w tmps l hS hl hsub hmem => ?_) ?_)
  · obtain ⟨a1, a2, rfl, ⟨rfl, -⟩, ⟨rfl, -⟩⟩ := args2 hl
    exact f118r_ok (ps := [(0, r.id), (1, r.pri), (2, r.act), (3, r.sco)]) (rest := textV r.pat ++ rest) (SlR.mono hd (hS.roLe [2]) fun _ _ h => h) (hS.ptrsTo (ro := [2]) (q := 2) (kt := 1) (bi := none) (T := 171) (ps := [(0, r.id), (1, r.pri), (2, r.act), (3, r.sco)]) (by kernel_rfl) (by simp) (by simp))
      (by obtain ⟨h1, h2, h3, h4, -⟩ := hr; simp [h1, h2, h3, h4]) (by simpa using hx) hmem hsub
  refine GD.run (by kernel_rfl) 50 ?_
  refine GD.fin (by kernel_rfl) ?_
  refine G.rebox 1 (b := ⟨some tb, .obj (.cells #[.int .i64 r.id, .int .i64 r.pri, .int .i64 r.act, .int .i64 r.sco, .string ⟨#[]⟩] 114 (0, 0))⟩) (x := .lit 114 (ruC r.id r.pri r.act r.sco ⟨#[]⟩)) (by kernel_rfl) (fun β w hh => BoxOk.toLit (cs := ruC r.id r.pri r.act r.sco ⟨#[]⟩) (show CellsOk _ _ (ruC r.id r.pri r.act r.sco ⟨#[]⟩) [.int .i64 r.id, .int .i64 r.pri, .int .i64 r.act, .int .i64 r.sco, .string ⟨#[]⟩] from ⟨rfl, rfl, rfl, rfl, rfl, trivial⟩) hh) ?_
  refine G.runE tm 100 ?_
  refine G.callM [0, 1] [] [] (f := 151) (svs := [.atom (.ptr 0 0), .atom (.ptr 1 4)]) (d := some 23) (by kernel_rfl) (by kernel_rfl) (by kernel_rfl) (bs := [rdB dv xs.length (pos + 24), .lit 114 (ruC r.id r.pri r.act r.sco ⟨#[]⟩)]) (os := []) (by kernel_rfl) (by kernel_rfl) (by kernel_rfl)
    (fun h' v bs os => h' = h ∧ v = .tuple #[] ∧ bs = [rdB dv xs.length (pos + 24 + 6 + r.pat.size), .lit 114 (rulC r)] ∧ os = []) (fun β w tmps l hS hl hsub hmem => ?_) ?_
  · obtain ⟨a1, a2, rfl, ⟨rfl, -⟩, ⟨rfl, -⟩⟩ := args2 hl
    refine (f151r_ok (b := β 0) (tb := β 1) (pos := pos + 24) (t := r.pat) (rest := rest) (SlR.mono hd (hS.roLe []) fun _ _ h => h) hr.2.2.2.2 hx2 hmem hsub).mono ?_
    rintro e w' ⟨rfl, hmend⟩
    exact ⟨_, [rdB dv xs.length (pos + 24 + 6 + r.pat.size), .lit 114 (rulC r)], [], _, rfl, rfl, rfl, hmend, hS.hideRo rfl, rfl, rfl, rfl⟩
  rintro h' v bs os ⟨rfl, rfl, rfl, rfl⟩ -
  refine ⟨.ofV (.tuple #[]), fun N β tmps => SVofV_ok N β tmps _, ?_⟩
  refine G.runE tm 100 ?_
  exact G.retM (ruM b tb dv xs.length pos (ruC 0 0 0 0 ⟨#[]⟩)) Try.func146 Try.results146 (.tuple #[]) (by kernel_rfl) rfl (ruM b tb dv xs.length (pos + 24 + 6 + r.pat.size) (rulC r)) (nb := 2) (no := 0) (by kernel_rfl) (by kernel_rfl) rfl fun w' hg => ⟨rfl, by rw [rulB_len, show pos + (30 + r.pat.size) = pos + 24 + 6 + r.pat.size by omega]; exact hg⟩
end r
end Go.Proofs.Ytkjahaoobdbffaa
