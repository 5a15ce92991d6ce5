/- The codec as a reader of what it has written: lists of rules and of numbers. -/
import Derived.Test.YtkjahaoobdbffaaK17
namespace Go.Proofs.Ytkjahaoobdbffaa
open Go Go.RowKit
attribute [local irreducible] G GD GDop

theorem el29 : ElT Try.prog 29 114 5 48 := .of Try.underlying29 (by kernel_rfl) (by decide)
theorem el30 : ElT Try.prog 30 3 1 8 := .of Try.underlying30 (by kernel_rfl) (by decide)

/-- An entry under reading. -/
def eC (e : Ent) (p : Value) (np : Nat) (d : Value) (nd : Nat) : List Cell :=
  [.int .i64 e.view, .int .i64 e.client, .int .i64 e.request, .int .i64 e.dflt, .int .i64 e.closed, .int .i64 e.fuel, .int .i64 e.stack, .sl p np, .sl d nd]
def enM (b tb : Nat) (dv : Value) (n pos : Nat) (cs : List Cell) : Mem := ⟨[(b, rdB dv n pos), (tb, .lit 34 cs)], []⟩
abbrev nilS : Value := .slice none 0 0

theorem drop_flat {α : Type} {f : α → List Value} {l : List α} {xs rest : List Value} {pos i : Nat} {x : α} (hx : xs.drop pos = l.flatMap f ++ rest) (h : l[i]? = some x) :
    xs.drop (pos + ((l.take i).flatMap f).length) = f x ++ ((l.drop (i + 1)).flatMap f ++ rest) := by
  rw [← List.drop_drop, hx]
  have h1 : l = l.take i ++ x :: l.drop (i + 1) := by
    have := List.take_append_drop i l
    have hi := (List.getElem?_eq_some_iff.1 h).1
    rw [List.drop_eq_getElem_cons hi] at this
    obtain ⟨_, rfl⟩ := List.getElem?_eq_some_iff.1 h
    exact this.symm
  have h2 : l.flatMap f = (l.take i).flatMap f ++ (f x ++ (l.drop (i + 1)).flatMap f) := by
    generalize l.take i = A at h1 ⊢
    generalize l.drop (i + 1) = B at h1 ⊢
    subst h1
    rw [List.flatMap_append, List.flatMap_cons]
  rw [h2, List.append_assoc, List.append_assoc]
  exact List.drop_left

section r
variable {h : GH} {w : World}

set_option maxHeartbeats 1000000 in
theorem f145r_ok {b tb : Nat} {dv : Value} {xs rest : List Value} {pos : Nat} {e : Ent} {l : List Rul} (hd : BytesR h dv xs) (hr : ∀ r ∈ l, rulOk r) (hn : l.length ≤ 1000000) (hx : xs.drop pos = rulsB l ++ rest) (hm : MemOk h w (enM b tb dv xs.length pos (eC e nilS 0 nilS 0))) (hs : Sub h w) :
    Calls Try.prog 145 #[.pointer (some ⟨b, 0, none⟩), .pointer (some ⟨tb, 7, none⟩), .int .i64 30, .func (.func 146) #[.pointer (some ⟨b, 0, none⟩)] #[]] w fun en w' => ∃ p h', en = .returned (.tuple #[]) ∧ Mend h w (enM b tb dv xs.length pos (eC e nilS 0 nilS 0)) h' w' (enM b tb dv xs.length (pos + (rulsB l).length) (eC e p l.length nilS 0)) ∧ SlR h' 5 RulR p l := by
  rw [rulsB, List.append_assoc] at hx
  have hx2 := (drop_step hx).1
  rw [numV_len] at hx2
  have hfl : 30 * l.length ≤ (l.flatMap rulB).length := by
    clear hx hx2 hn hr
    induction l with
    | nil => simp
    | cons a l ih => simp only [List.flatMap_cons, List.length_append, List.length_cons, rulB_len]; omega
  refine Calls.enterM (enM b tb dv xs.length pos (eC e nilS 0 nilS 0)) [.atom (.ptr 0 0), .atom (.ptr 1 7), .atom (.int .i64 30), .atom (.clo 146 true 0 0)] Try.func145 (c := bodyOf Try.f145) (by kernel_rfl) Try.ntmps145 (by kernel_rfl) hm
    ⟨⟨rfl, Nat.zero_lt_two⟩, ⟨rfl, Nat.one_lt_two⟩, rfl, ⟨rfl, Nat.zero_lt_two⟩, trivial⟩ (by simp) hs ?_
  refine G.runE tm 100 ?_
  refine G.callR1 0 [] (f := 144) (svs := [.atom (.ptr 0 0), .atom (.int .i64 0), .atom (.int .i64 30)]) (d := some 19) (by kernel_rfl) (by kernel_rfl) (by kernel_rfl) (dv := dv) (n := xs.length) (pos := pos) (by kernel_rfl) (by kernel_rfl)
    (pos' := pos + 6) (r := .int .i64 l.length) (fun β w tmps l' hS hl hsub hmem => ?_) ?_
  · obtain ⟨a1, a2, a3, rfl, ⟨rfl, -⟩, rfl, rfl⟩ := args3 hl
    exact f144r_ok (SlR.mono hd (hS.roLe []) fun _ _ h => h) (by omega) (by decide) hx (by rw [List.length_append]; omega) hmem hsub
  refine G.runE tm 100 ?_
  refine G.condF (b := false) (by kernel_rfl) rfl ?_
  refine G.runE tm 100 ?_
  refine G.ownNil 0 114 5 ?_
  refine G.loop (α := Nat × Value × List Value × Nat)
    (fun x => ⟨[(0, .one (.atom (.ptr 0 0))), (1, .one (.atom (.ptr 1 7))), (3, .one (.atom (.clo 146 true 0 0))), (8, .one (.atom (.int .i64 l.length))), (11, .one (.atom (.int .i64 x.1)))],
      [(0, ⟨some b, rdB dv xs.length x.2.2.2⟩), (1, ⟨some tb, .lit 34 (eC e x.2.1 x.1 nilS 0)⟩)], 2, [(0, ⟨114, 5, x.2.1, x.1, x.2.2.1⟩)]⟩)
    (fun x g => g = h ∧ x.1 ≤ l.length ∧ ListR 5 RulR x.2.2.1 (l.take x.1) ∧ x.2.2.2 = pos + 6 + ((l.take x.1).flatMap rulB).length) (fun x => l.length - x.1) (0, nilS, [], pos + 6) [0, 1, 3, 8, 11] [0, 1] 2 [0] (by kernel_rfl) (by kernel_rfl) (by kernel_rfl)
      ⟨rfl, Nat.zero_le _, by simpa using ListR.nil, by simp⟩ ?_
  rintro ⟨i, u, ys, q⟩ g ⟨rfl, hi, hys, hq⟩ IH
  simp only at hi hys hq
  refine G.runE tm 100 ?_
  refine G.cond (decide ((i : Int) < (l.length : Int)) && !false) (by kernel_rfl) (fun hc => ?_) (fun hc => ?_)
  · have hlt : i < l.length := by simpa using hc
    obtain ⟨r, hri⟩ := get_of_lt hlt
    have hxr := drop_flat hx2 hri
    rw [← hq] at hxr
    refine G.runE tm 100 ?_
    refine G.callM [0, 2] [] [] (f := 146) (svs := [.atom (.ptr 0 0), .atom (.ptr 2 0)]) (d := some 48) (by kernel_rfl) (by kernel_rfl) (by kernel_rfl) (bs := [rdB dv xs.length q, .lit 114 (ruC 0 0 0 0 ⟨#[]⟩)]) (os := []) (by kernel_rfl) (by kernel_rfl) (by kernel_rfl)
      (fun h' v bs os => h' = g ∧ v = .tuple #[] ∧ bs = [rdB dv xs.length (q + (rulB r).length), .lit 114 (rulC r)] ∧ os = []) (fun β w tmps l' hS hl hsub hmem => ?_) ?_
    · obtain ⟨a1, a2, rfl, ⟨rfl, -⟩, ⟨rfl, -⟩⟩ := args2 hl
      refine (f146r_ok (b := β 0) (tb := β 2) (pos := q) (r := r) (SlR.mono hd (hS.roLe []) fun _ _ h => h) (hr r (List.mem_of_getElem? hri)) hxr hmem hsub).mono ?_
      rintro en w' ⟨rfl, hmend⟩
      exact ⟨_, [rdB dv xs.length (q + (rulB r).length), .lit 114 (rulC r)], [], _, rfl, rfl, rfl, hmend, hS.hideRo rfl, rfl, rfl, rfl⟩
    rintro h' v bs os ⟨rfl, rfl, rfl, rfl⟩ -
    refine ⟨.ofV (.tuple #[]), fun N β tmps => SVofV_ok N β tmps _, ?_⟩
    refine G.runE tm 100 ?_
    refine G.draw [2] tm (by kernel_rfl) (by kernel_rfl) ?_
    refine GD.autoN (by kernel_rfl) 10 2 (by kernel_rfl) (by kernel_rfl) ?_
    refine GD.one 6 (by kernel_rfl) (GDop.appLit (T := 29) (v := u) (m := i) (xs := ys) (kx := 3) (q := 1) (q' := 1) (d := some 55) el29 0 (by kernel_rfl) (by kernel_rfl) (by kernel_rfl) (bi := none) (e' := 114) (cs := rulC r) (by kernel_rfl)
      (news := (rulA r).toList) (by kernel_rfl) rfl (by omega) (by omega) fun u' _ => ?_)
    refine GD.run (by kernel_rfl) 50 ?_
    refine GD.fin (by kernel_rfl) ?_
    refine G.runE tm 100 ?_
    refine G.reint (k := .i64) (a := IntKind.i64.wrap ((i : Int) + 1)) (b := ((i + 1 : Nat) : Int)) 11 (by kernel_rfl) (by rw [IntWalk.i64_in _ (by omega)]; rfl) ?_
    refine G.back (by kernel_rfl) [0, 1, 3, 8, 11] [0, 1] 2 [0] (by kernel_rfl) (by kernel_rfl) (IH (i + 1, u', ys ++ (rulA r).toList, q + (rulB r).length) _ ⟨rfl, hlt, ?_, ?_⟩ (by simp only; omega))
    · simp only; rw [List.take_add_one, hri]; exact hys.snoc rfl rfl
    · simp only; rw [flat_snoc hri, List.length_append]; omega
  · obtain rfl : i = l.length := by simp at hc; omega
    rw [List.take_length] at hys hq
    refine G.runE tm 100 ?_
    refine G.freeze 0 (e := 114) (sz := 5) (v := u) (m := l.length) (xs := ys) (by kernel_rfl) fun h' hle hf _ => ?_
    have hv := SlR.of_freeze hf hys rfl (by omega)
    exact G.retM (enM b tb dv xs.length pos (eC e nilS 0 nilS 0)) Try.func145 Try.results145 (.tuple #[]) (by kernel_rfl) rfl (enM b tb dv xs.length q (eC e u l.length nilS 0)) (nb := 2) (no := 0) (by kernel_rfl) (by kernel_rfl) rfl
      fun w' hg => ⟨u, h', rfl, by rw [rulsB, List.length_append, numV_len, show pos + (6 + (l.flatMap rulB).length) = q by omega]; exact hg, hv⟩

def inM (b tb : Nat) (dv : Value) (n pos : Nat) (x : Int) : Mem := ⟨[(b, rdB dv n pos), (tb, .lit 3 [.int .i64 x])], []⟩

theorem f148r_ok {b cb ib : Nat} {dv : Value} {xs rest : List Value} {pos : Nat} {x : Int} {T' : TypeId} {fr' : Nat × Nat} (hd : BytesR h dv xs) (hn : numOk x) (hx : xs.drop pos = numV x ++ rest) (hc : h cb = some (.cells #[.pointer (some ⟨b, 0, none⟩)] T' fr')) (hm : MemOk h w (inM b ib dv xs.length pos 0)) (hs : Sub h w) :
    Calls Try.prog 148 #[.pointer (some ⟨ib, 0, none⟩), .pointer (some ⟨cb, 0, none⟩)] w fun e w' => e = .returned (.tuple #[]) ∧ Mend h w (inM b ib dv xs.length pos 0) h w' (inM b ib dv xs.length (pos + 6) x) := by
  refine Calls.enterM (inM b ib dv xs.length pos 0) [.atom (.ptr 1 0), .atom (.raw (.pointer (some ⟨cb, 0, none⟩)))] Try.func148 (c := bodyOf Try.f148) (by kernel_rfl) Try.ntmps148 (by kernel_rfl) hm ⟨⟨rfl, Nat.one_lt_two⟩, ⟨rfl, rfl⟩, trivial⟩ (by simp) hs ?_
  refine G.runE tm 100 ?_
  refine G.sem (m := valS (Instr.loadAt 125 (.pointer (some ⟨cb, 0, none⟩)))) (d := some 3) (g := none) (by kernel_rfl) (by kernel_rfl) (.pointer (some ⟨b, 0, none⟩)) (.atom (.raw (.pointer (some ⟨b, 0, none⟩)))) (fun _ _ => ⟨rfl, rfl⟩)
    (says_of fun w hw => run_valS (loadCell Try.underlying125 rfl hc rfl hw)) ?_
  refine G.toPtr 3 0 (b := b) (off := 0) (x := rdB dv xs.length pos) (by kernel_rfl) (by kernel_rfl) ?_
  refine G.runE tm 100 ?_
  refine G.rebox 1 (b := ⟨some ib, .lit 3 [.int .i64 0]⟩) (x := .obj (.cells #[.int .i64 0] 3 (0, 0))) (by kernel_rfl) (fun β w hh => BoxOk.toObj rfl hh) ?_
  refine G.callRd 0 1 [2] (f := 118) (svs := [.atom (.ptr 0 0), .atom (.bsl 2 0 1 1)]) (d := some 6) (by kernel_rfl) (by kernel_rfl) (by kernel_rfl) (T := 3) (dv := dv) (n := xs.length) (pos := pos) (arr := #[.int .i64 0]) (by kernel_rfl) (by kernel_rfl)
    (pos' := pos + 6) (arr' := #[.int .i64 x]) (r := .tuple #[]) (fun β w tmps l hS hl hsub hmem => ?_) ?_
  · obtain ⟨a1, a2, rfl, ⟨rfl, -⟩, ⟨rfl, -⟩⟩ := args2 hl
    exact f118r_ok (ps := [(0, x)]) (rest := rest) (SlR.mono hd (hS.roLe [2]) fun _ _ h => h) (hS.ptrsTo (ro := [2]) (q := 2) (kt := 1) (bi := none) (T := 171) (ps := [(0, x)]) (by kernel_rfl) (by simp) (by simp))
      (by intro p hp; simp only [List.mem_singleton] at hp; subst hp; exact ⟨by simp, hn⟩) (by simpa using hx) hmem hsub
  refine G.rebox 1 (b := ⟨some ib, .obj (.cells #[.int .i64 x] 3 (0, 0))⟩) (x := .lit 3 [.int .i64 x]) (by kernel_rfl) (fun β w hh => BoxOk.toLit (cs := [.int .i64 x]) (show CellsOk _ _ [.int .i64 x] [.int .i64 x] from ⟨rfl, trivial⟩) hh) ?_
  refine G.runE tm 100 ?_
  exact G.retM (inM b ib dv xs.length pos 0) Try.func148 Try.results148 (.tuple #[]) (by kernel_rfl) rfl (inM b ib dv xs.length (pos + 6) x) (nb := 2) (no := 0) (by kernel_rfl) (by kernel_rfl) rfl fun w' hg => ⟨rfl, hg⟩

set_option maxHeartbeats 1000000 in
theorem f147r_ok {b cb tb : Nat} {dv p : Value} {np : Nat} {xs rest : List Value} {pos : Nat} {e : Ent} {l : List Int} {T' : TypeId} {fr' : Nat × Nat} (hd : BytesR h dv xs) (hr : ∀ r ∈ l, numOk r) (hn : l.length ≤ 1000000) (hx : xs.drop pos = intsB l ++ rest) (hc : h cb = some (.cells #[.pointer (some ⟨b, 0, none⟩)] T' fr'))
    (hm : MemOk h w (enM b tb dv xs.length pos (eC e p np nilS 0))) (hs : Sub h w) :
    Calls Try.prog 147 #[.pointer (some ⟨b, 0, none⟩), .pointer (some ⟨tb, 8, none⟩), .int .i64 6, .func (.func 148) #[] #[.pointer (some ⟨cb, 0, none⟩)]] w fun en w' => ∃ d h', en = .returned (.tuple #[]) ∧ Mend h w (enM b tb dv xs.length pos (eC e p np nilS 0)) h' w' (enM b tb dv xs.length (pos + (intsB l).length) (eC e p np d l.length)) ∧ SlR h' 1 IntR d l := by
  rw [intsB, List.append_assoc] at hx
  have hx2 := (drop_step hx).1
  rw [numV_len] at hx2
  have hfl := flat_len l
  refine Calls.enterM (enM b tb dv xs.length pos (eC e p np nilS 0)) [.atom (.ptr 0 0), .atom (.ptr 1 8), .atom (.int .i64 6), .atom (.raw (.func (.func 148) #[] #[.pointer (some ⟨cb, 0, none⟩)]))] Try.func147 (c := bodyOf Try.f147) (by kernel_rfl) Try.ntmps147 (by kernel_rfl) hm
    ⟨⟨rfl, Nat.zero_lt_two⟩, ⟨rfl, Nat.one_lt_two⟩, rfl, ⟨rfl, rfl⟩, trivial⟩ (by simp) hs ?_
  refine G.runE tm 100 ?_
  refine G.callR1 0 [] (f := 144) (svs := [.atom (.ptr 0 0), .atom (.int .i64 0), .atom (.int .i64 6)]) (d := some 19) (by kernel_rfl) (by kernel_rfl) (by kernel_rfl) (dv := dv) (n := xs.length) (pos := pos) (by kernel_rfl) (by kernel_rfl)
    (pos' := pos + 6) (r := .int .i64 l.length) (fun β w tmps l' hS hl hsub hmem => ?_) ?_
  · obtain ⟨a1, a2, a3, rfl, ⟨rfl, -⟩, rfl, rfl⟩ := args3 hl
    exact f144r_ok (SlR.mono hd (hS.roLe []) fun _ _ h => h) (by omega) (by decide) hx (by rw [List.length_append]; omega) hmem hsub
  refine G.runE tm 100 ?_
  refine G.condF (b := false) (by kernel_rfl) rfl ?_
  refine G.runE tm 100 ?_
  refine G.ownNil 0 3 1 ?_
  refine G.loop (α := Nat × Value × List Value × Nat)
    (fun x => ⟨[(0, .one (.atom (.ptr 0 0))), (1, .one (.atom (.ptr 1 8))), (3, .one (.atom (.raw (.func (.func 148) #[] #[.pointer (some ⟨cb, 0, none⟩)])))), (8, .one (.atom (.int .i64 l.length))), (11, .one (.atom (.int .i64 x.1)))],
      [(0, ⟨some b, rdB dv xs.length x.2.2.2⟩), (1, ⟨some tb, .lit 34 (eC e p np x.2.1 x.1)⟩)], 2, [(0, ⟨3, 1, x.2.1, x.1, x.2.2.1⟩)]⟩)
    (fun x g => g = h ∧ x.1 ≤ l.length ∧ ListR 1 IntR x.2.2.1 (l.take x.1) ∧ x.2.2.2 = pos + 6 + ((l.take x.1).flatMap numV).length) (fun x => l.length - x.1) (0, nilS, [], pos + 6) [0, 1, 3, 8, 11] [0, 1] 2 [0] (by kernel_rfl) (by kernel_rfl) (by kernel_rfl)
      ⟨rfl, Nat.zero_le _, by simpa using ListR.nil, by simp⟩ ?_
  rintro ⟨i, u, ys, q⟩ g ⟨rfl, hi, hys, hq⟩ IH
  simp only at hi hys hq
  refine G.runE tm 100 ?_
  refine G.cond (decide ((i : Int) < (l.length : Int)) && !false) (by kernel_rfl) (fun hc1 => ?_) (fun hc1 => ?_)
  · have hlt : i < l.length := by simpa using hc1
    obtain ⟨r, hri⟩ := get_of_lt hlt
    have hxr := drop_flat hx2 hri
    rw [← hq] at hxr
    refine G.runE tm 100 ?_
    refine G.callM [0, 2] [] [] (f := 148) (svs := [.atom (.ptr 2 0), .atom (.raw (.pointer (some ⟨cb, 0, none⟩)))]) (d := some 48) (by kernel_rfl) (by kernel_rfl) (by kernel_rfl) (bs := [rdB dv xs.length q, .lit 3 [.int .i64 0]]) (os := []) (by kernel_rfl) (by kernel_rfl) (by kernel_rfl)
      (fun h' v bs os => h' = g ∧ v = .tuple #[] ∧ bs = [rdB dv xs.length (q + 6), .lit 3 [.int .i64 r]] ∧ os = []) (fun β w tmps l' hS hl hsub hmem => ?_) ?_
    · obtain ⟨a1, a2, rfl, ⟨rfl, -⟩, ⟨rfl, -⟩⟩ := args2 hl
      have hβ : β 0 = b := hS.key (x := rdB dv xs.length q) (by kernel_rfl)
      refine (f148r_ok (b := β 0) (ib := β 2) (pos := q) (x := r) (SlR.mono hd (hS.roLe []) fun _ _ h => h) (hr r (List.mem_of_getElem? hri)) hxr (by rw [hβ]; exact hS.roLe [] _ _ hc) hmem hsub).mono ?_
      rintro en w' ⟨rfl, hmend⟩
      exact ⟨_, [rdB dv xs.length (q + 6), .lit 3 [.int .i64 r]], [], _, rfl, rfl, rfl, hmend, hS.hideRo rfl, rfl, rfl, rfl⟩
    rintro h' v bs os ⟨rfl, rfl, rfl, rfl⟩ -
    refine ⟨.ofV (.tuple #[]), fun N β tmps => SVofV_ok N β tmps _, ?_⟩
    refine G.runE tm 100 ?_
    refine G.draw [2] tm (by kernel_rfl) (by kernel_rfl) ?_
    refine GD.autoN (by kernel_rfl) 10 2 (by kernel_rfl) (by kernel_rfl) ?_
    refine GD.one 6 (by kernel_rfl) (GDop.appLit (T := 30) (v := u) (m := i) (xs := ys) (kx := 3) (q := 1) (q' := 1) (d := some 55) el30 0 (by kernel_rfl) (by kernel_rfl) (by kernel_rfl) (bi := none) (e' := 3) (cs := [.int .i64 r]) (by kernel_rfl)
      (news := [.int .i64 r]) (by kernel_rfl) rfl (by omega) (by omega) fun u' _ => ?_)
    refine GD.run (by kernel_rfl) 50 ?_
    refine GD.fin (by kernel_rfl) ?_
    refine G.runE tm 100 ?_
    refine G.reint (k := .i64) (a := IntKind.i64.wrap ((i : Int) + 1)) (b := ((i + 1 : Nat) : Int)) 11 (by kernel_rfl) (by rw [IntWalk.i64_in _ (by omega)]; rfl) ?_
    refine G.back (by kernel_rfl) [0, 1, 3, 8, 11] [0, 1] 2 [0] (by kernel_rfl) (by kernel_rfl) (IH (i + 1, u', ys ++ [.int .i64 r], q + 6) _ ⟨rfl, hlt, ?_, ?_⟩ (by simp only; omega))
    · simp only; rw [List.take_add_one, hri]; exact hys.snoc rfl rfl
    · simp only; rw [flat_snoc hri, List.length_append, numV_len]; omega
  · obtain rfl : i = l.length := by simp at hc1; omega
    rw [List.take_length] at hys hq
    refine G.runE tm 100 ?_
    refine G.freeze 0 (e := 3) (sz := 1) (v := u) (m := l.length) (xs := ys) (by kernel_rfl) fun h' hle hf _ => ?_
    have hv := SlR.of_freeze hf hys rfl (by omega)
    exact G.retM (enM b tb dv xs.length pos (eC e p np nilS 0)) Try.func147 Try.results147 (.tuple #[]) (by kernel_rfl) rfl (enM b tb dv xs.length q (eC e p np u l.length)) (nb := 2) (no := 0) (by kernel_rfl) (by kernel_rfl) rfl
      fun w' hg => ⟨u, h', rfl, by rw [intsB, List.length_append, numV_len, show pos + (6 + (l.flatMap numV).length) = q by omega]; exact hg, hv⟩
end r
end Go.Proofs.Ytkjahaoobdbffaa
