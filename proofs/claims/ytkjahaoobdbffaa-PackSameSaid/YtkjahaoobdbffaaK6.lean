/- The codec as a writer: counts, texts, rules. -/
import Derived.Test.YtkjahaoobdbffaaK5
import Derived.Test.YtkjahaoobdbffaaB13
namespace Go.Proofs.Ytkjahaoobdbffaa
open Go Go.RowKit
attribute [local irreducible] G GD GDop

theorem st40 : StrT Try.prog 40 9 5 := .of Try.underlying40 Try.underlying9 (by kernel_rfl)

/-- A cell that points to a number that is known and not written. -/
def PtrCell (h : GH) (boxes : List (Nat × Box)) (ro : List Nat) : Cell → Int → Prop
  | .ptr k off, x => k ∈ ro ∧ ∃ b T cs, bx k boxes = some ⟨b, .lit T cs⟩ ∧ cs[off]? = some (.int .i64 x)
  | .raw (.pointer (some ⟨b, off, none⟩)), x => ∃ arr T fr, h b = some (.cells arr T fr) ∧ arr[off]? = some (.int .i64 x)
  | _, _ => False

def PtrCells (h : GH) (boxes : List (Nat × Box)) (ro : List Nat) : List Cell → List Int → Prop
  | [], [] => True
  | c :: cs, x :: xs => PtrCell h boxes ro c x ∧ PtrCells h boxes ro cs xs
  | _, _ => False

section ptrs
variable {hE : GH} {w0 : World} {inc : List Nat} {n : Nat} {s : S} {h : GH} {β : Nat → Nat} {w : World} {tmps : Array Value}

theorem PtrCells.len {boxes : List (Nat × Box)} {ro : List Nat} : ∀ {cs : List Cell} {l : List Int}, PtrCells h boxes ro cs l → cs.length = l.length := by
  intro cs
  induction cs with
  | nil => intro l hp; cases l <;> simp_all [PtrCells]
  | cons c cs ih =>
    intro l hp
    cases l with
    | nil => simp [PtrCells] at hp
    | cons x l => simp [ih hp.2]

theorem Sim.ptrCells (hS : Sim hE w0 inc n s h β w tmps) {ro : List Nat} : ∀ {cs : List Cell} {l : List Int} {vs : List Value}, PtrCells h s.boxes ro cs l → CellsOk s.nb β cs vs → ∀ (i : Nat) (x : Int), l[i]? = some x → ∃ u, vs[i]? = some u ∧ PtrR (roH h β w ro) [u] x := by
  intro cs
  induction cs with
  | nil => intro l vs hp hc i x hx; cases l <;> simp_all [PtrCells]
  | cons c cs ih =>
    intro l vs hp hc i x hx
    cases l with
    | nil => simp [PtrCells] at hp
    | cons y l =>
      cases vs with
      | nil => simp [CellsOk] at hc
      | cons v vs =>
        cases i with
        | succ i => simpa using ih hp.2 hc.2 i x (by simpa using hx)
        | zero =>
          simp at hx; subst hx
          refine ⟨v, by simp, ?_⟩
          have h1 := hp.1
          have h2 := hc.1
          unfold PtrCell at h1
          split at h1
          · rename_i x k off
            obtain ⟨hk, b, T, ds, h3, h4⟩ := h1
            obtain ⟨rfl, -⟩ := h2
            obtain ⟨arr, h5, h6⟩ := hS.box k _ h3
            obtain ⟨u, h7, h8⟩ := h6.get h4
            refine ⟨β k, off, arr, T, (0, 0), rfl, by rw [roH_ro hk]; exact h5, ?_⟩
            simp only [CellOk] at h8
            subst h8
            simpa using h7
          · rename_i x b off
            obtain ⟨arr, T, fr, h3, h4⟩ := h1
            obtain ⟨rfl, -⟩ := h2
            exact ⟨b, off, arr, T, fr, rfl, hS.roLe ro _ _ h3, h4⟩
          · exact h1.elim

theorem Sim.ptrs (hS : Sim hE w0 inc n s h β w tmps) {ro : List Nat} {q : Nat} {bi : Option Nat} {T : TypeId} {cs : List Cell} {l : List Int} (hb : bx q s.boxes = some ⟨bi, .lit T cs⟩) (hq : q ∈ ro) (hp : PtrCells h s.boxes ro cs l) (hl : l.length ≤ 1000) :
    SlR (roH h β w ro) 1 (PtrR (roH h β w ro)) (.slice (some ⟨β q, 0, none⟩) l.length l.length) l := by
  obtain ⟨arr, h1, h2⟩ := hS.box q _ hb
  have hlen := h2.length
  have hlen' := hp.len
  simp at hlen
  refine ⟨_, _, rfl, Nat.le_refl _, by omega, .inr ⟨β q, 0, arr, T, (0, 0), rfl, by rw [roH_ro hq]; exact h1, by omega, fun i x hx => ?_⟩⟩
  obtain ⟨u, h3, h4⟩ := hS.ptrCells hp h2 i x hx
  have : (arr.toList.drop (0 + i * 1)).take 1 = [u] := by
    rw [show 0 + i * 1 = i by omega]
    have hi := (List.getElem?_eq_some_iff.1 h3)
    obtain ⟨hi, rfl⟩ := hi
    rw [List.drop_eq_getElem_cons hi]; simp
  rw [this]; exact h4
end ptrs

theorem Sim.hideRo {hE : GH} {w0 : World} {inc : List Nat} {n : Nat} {s : S} {h : GH} {β : Nat → Nat} {w : World} {tmps : Array Value} (hS : Sim hE w0 inc n s h β w tmps) {ro : List Nat} (hro : keysIn ro s.boxes = true) : hideH β ro (roH h β w ro) = h := by
  funext b
  unfold hideH roH
  by_cases hr : (ro.any fun k => Nat.beq (β k) b) = true
  · simp only [if_pos hr]
    obtain ⟨k, hk1, hk2⟩ := List.any_eq_true.1 hr
    obtain ⟨c, hc⟩ := Option.isSome_iff_exists.1 (List.all_eq_true.1 hro k hk1)
    have := hS.gno k c hc
    rw [Nat.eq_of_beq_eq_true hk2] at this; exact this.symm
  · simp only [if_neg hr]

theorem mk_wrote {h : GH} {w w' : World} {b n' : Nat} {v v' : Value} {xs zs ys : List Value} (hg : Mend h w (codM b v xs) h w' ⟨[(b, codB v' n')], [⟨5, 1, v', n', ys⟩]⟩) (hn : n' = (xs ++ zs).length) (hy : ys = xs ++ zs) : Mend h w (codM b v xs) h w' (codM b v' (xs ++ zs)) := by
  subst hn hy; exact hg

/-- What such a call leaves: zs written behind, r answered. -/
def Wrote1 (h : GH) (w : World) (b : Nat) (v : Value) (xs zs : List Value) (r : Value) (e : Ending) (w' : World) : Prop :=
  ∃ v', e = .returned r ∧ Mend h w (codM b v xs) h w' (codM b v' (xs ++ zs))

theorem Wrote.one {h : GH} {w : World} {b : Nat} {v : Value} {xs zs : List Value} {e : Ending} {w' : World} (hw : Wrote h w b v xs zs e w') : Wrote1 h w b v xs zs (.tuple #[]) e w' := hw

def codIn (s : S) (kc ko : Nat) (ro : List Nat) : Bool := handOk s [kc] [ko] ro

/-- **A call that writes behind what is written**, as a whole. -/
theorem G.callW {C : Ctx} {h : GH} {c : Cfg} {f : FuncId} {svs : List SV1} {d : Option Nat} (kc ko : Nat) (ro : List Nat) (hc : callView c = some ⟨f, svs, d, none⟩) (he : enters C.P f = true) (hd : dstOk C.n d = true) {v : Value} {n : Nat} {xs : List Value}
    (hb : pickB c.s.boxes [kc] = some [codB v n]) (ho : pickO c.s.owns [ko] = some [⟨5, 1, v, n, xs⟩]) (hh : handOk c.s [kc] [ko] ro = true) (hn : n = xs.length) {zs : List Value} {r : Value} {n' : Nat} (hn' : n' = n + zs.length)
    (hcall : ∀ β w tmps l, Sim C.hE C.w0 C.inc C.n c.s h β w tmps → SV1sOk c.s.nb β svs l → Sub (roH h β w ro) w → MemOk (roH h β w ro) w (codM (β kc) v xs) → Calls C.P f l.toArray w (Wrote1 (roH h β w ro) w (β kc) v xs zs r))
    (hk : ∀ v', G C h (afterOp (withS c (putMem c.s [kc] [ko] [codB v' n'] [⟨5, 1, v', n', xs ++ zs⟩])) (.ofV r))) : G C h c := by
  subst hn
  subst hn'
  refine G.callM [kc] [ko] ro hc he hd hb ho hh (fun h' r' bs' os' => h' = h ∧ r' = r ∧ ∃ v', bs' = [codB v' (xs.length + zs.length)] ∧ os' = [⟨5, 1, v', xs.length + zs.length, xs ++ zs⟩]) (fun β w tmps l hS hl hsub hmem => ?_) ?_
  · refine (hcall β w tmps l hS hl hsub hmem).mono ?_
    rintro e w' ⟨v', rfl, hm⟩
    simp only [handOk, Bool.and_eq_true] at hh
    refine ⟨r, _, _, _, rfl, rfl, rfl, ?_, hS.hideRo hh.1.2, rfl, v', rfl, rfl⟩
    simp only [codM, List.length_append] at hm
    exact hm
  · rintro h' r' bs' os' ⟨rfl, rfl, v', rfl, rfl⟩ -
    exact ⟨_, fun N β tmps => SVofV_ok N β tmps _, hk v'⟩

theorem GDop.callW {C : Ctx} {h0 h : GH} {ops : Array Oper} {k : List Item} {kl : List Nat} {c : DCfg} {i : Nat} {f : FuncId} {svs : List SV1} {d : Option Nat} (kc ko : Nat) (ro : List Nat) (hc : callAtD ops c i = some ⟨f, svs, d, none⟩) (he : enters C.P f = true) (hd : dstOk C.n d = true) {v : Value} {n : Nat} {xs : List Value}
    (hb : pickB c.s.boxes [kc] = some [codB v n]) (ho : pickO c.s.owns [ko] = some [⟨5, 1, v, n, xs⟩]) (hh : handOk c.s [kc] [ko] ro = true) (hlv : liveAll kl c.s = true) (hdk : disj kl [kc] = true) (hn : n = xs.length) {zs : List Value} {r : Value} {n' : Nat} (hn' : n' = n + zs.length)
    (hcall : ∀ β w tmps l, Sim C.hE C.w0 C.inc C.n c.s h β w tmps → SV1sOk c.s.nb β svs l → Sub (roH h β w ro) w → MemOk (roH h β w ro) w (codM (β kc) v xs) → Calls C.P f l.toArray w (Wrote1 (roH h β w ro) w (β kc) v xs zs r))
    (hk : ∀ v', GD C h0 h ops k kl (afterN ops c i (putMem c.s [kc] [ko] [codB v' n'] [⟨5, 1, v', n', xs ++ zs⟩]) (.ofV r))) : GDop C h0 h ops k kl c i := by
  subst hn
  subst hn'
  refine GDop.callM [kc] [ko] ro hc he hd hb ho hh hlv hdk (fun h' r' bs' os' => h' = h ∧ r' = r ∧ ∃ v', bs' = [codB v' (xs.length + zs.length)] ∧ os' = [⟨5, 1, v', xs.length + zs.length, xs ++ zs⟩]) (fun β w tmps l hS hl hsub hmem => ?_) ?_
  · refine (hcall β w tmps l hS hl hsub hmem).mono ?_
    rintro e w' ⟨v', rfl, hm⟩
    simp only [handOk, Bool.and_eq_true] at hh
    refine ⟨r, _, _, _, rfl, rfl, rfl, ?_, hS.hideRo hh.1.2, rfl, v', rfl, rfl⟩
    simp only [codM, List.length_append] at hm
    exact hm
  · rintro h' r' bs' os' ⟨rfl, rfl, v', rfl, rfl⟩ -
    exact ⟨_, fun N β tmps => SVofV_ok N β tmps _, hk v'⟩

section args
variable {N : Nat} {β : Nat → Nat}
theorem args1 {a : SV1} {l : List Value} (h : SV1sOk N β [a] l) : ∃ x, l = [x] ∧ SV1Ok N β a x := by
  match l, h with
  | [x], h => exact ⟨x, rfl, h.1⟩
theorem args2 {a b : SV1} {l : List Value} (h : SV1sOk N β [a, b] l) : ∃ x y, l = [x, y] ∧ SV1Ok N β a x ∧ SV1Ok N β b y := by
  match l, h with
  | [x, y], h => exact ⟨x, y, rfl, h.1, h.2.1⟩
theorem args3 {a b c : SV1} {l : List Value} (h : SV1sOk N β [a, b, c] l) : ∃ x y z, l = [x, y, z] ∧ SV1Ok N β a x ∧ SV1Ok N β b y ∧ SV1Ok N β c z := by
  match l, h with
  | [x, y, z], h => exact ⟨x, y, z, rfl, h.1, h.2.1, h.2.2.1⟩
theorem args4 {a b c d : SV1} {l : List Value} (h : SV1sOk N β [a, b, c, d] l) : ∃ x y z u, l = [x, y, z, u] ∧ SV1Ok N β a x ∧ SV1Ok N β b y ∧ SV1Ok N β c z ∧ SV1Ok N β d u := by
  match l, h with
  | [x, y, z, u], h => exact ⟨x, y, z, u, rfl, h.1, h.2.1, h.2.2.1, h.2.2.2.1⟩
end args

theorem run_quo {T : TypeId} (x y : Operand) (a k : Int) (hk : 0 < k) (w : World) :
    (do eqGuard .quo T x y (.int .i64 a) (.int .i64 k); binOp .quo T (.int .i64 a) (.int .i64 k)).run Try.prog w = .ok (.int .i64 (IntKind.i64.wrap (a.tdiv k))) w := by
  have h0 : ¬ k = 0 := by omega
  simp [run_eqGuard_int, binOp, Op.intDiv, h0]

section w
variable {h : GH} {w : World}

theorem f144_ok {b : Nat} {v : Value} {xs : List Value} {n k : Int} (hk : 0 < k) (hm : MemOk h w (codM b v xs)) (hs : Sub h w) (hn : xs.length + 6 ≤ 140737488351232) :
    Calls Try.prog 144 #[.pointer (some ⟨b, 0, none⟩), .int .i64 n, .int .i64 k] w (Wrote1 h w b v xs (numV n) (.int .i64 n)) := by
  refine Calls.enterM (codM b v xs) [.atom (.ptr 0 0), .atom (.int .i64 n), .atom (.int .i64 k)] Try.func144 (c := bodyOf Try.f144) (by kernel_rfl) Try.ntmps144 (by kernel_rfl) hm ⟨⟨rfl, Nat.zero_lt_one⟩, rfl, rfl, trivial⟩ (by simp) hs ?_
  refine G.runE tm 100 ?_
  refine G.callW 0 0 [1, 2] (f := 118) (svs := [.atom (.ptr 0 0), .atom (.bsl 2 0 1 1)]) (d := some 9) (by kernel_rfl) (by kernel_rfl) (by kernel_rfl) (v := v) (n := xs.length) (xs := xs) (by kernel_rfl) (by kernel_rfl) (by kernel_rfl) rfl
    (zs := numV n) (r := .tuple #[]) (n' := xs.length + 6) (by rw [numV_len]) (fun β w tmps l hS hl hsub hmem => ?_) fun v' => ?_
  · obtain ⟨a1, a2, rfl, ⟨rfl, -⟩, ⟨rfl, -⟩⟩ := args2 hl
    have h1 := hS.ptrs (ro := [1, 2]) (q := 2) (bi := none) (T := 171) (cs := [.ptr 1 0]) (l := [n]) (by kernel_rfl) (by simp) ⟨⟨by simp, none, 3, [.int .i64 n], by kernel_rfl, rfl⟩, trivial⟩ (by simp)
    have h2 := f118_ok (v := v) (xs := xs) h1 hmem hsub (by simpa using hn)
    rw [show [n].flatMap numV = numV n by simp] at h2
    exact h2
  refine G.runE tm 100 ?_
  refine G.draw [0, 1] tm (by kernel_rfl) (by kernel_rfl) ?_
  refine GD.run (by kernel_rfl) 50 ?_
  refine GD.sem 27 (m := valS (do eqGuard .quo 3 (.tmp 35) (.tmp 36) (.int .i64 (IntKind.i64.wrap (((xs.length + 6 : Nat) : Int) - 0))) (.int .i64 k); binOp .quo 3 (.int .i64 (IntKind.i64.wrap (((xs.length + 6 : Nat) : Int) - 0))) (.int .i64 k))) (dst := some 37) (g := some (24, false)) (by kernel_rfl) (by kernel_rfl)
    (.int .i64 (IntKind.i64.wrap ((IntKind.i64.wrap (((xs.length + 6 : Nat) : Int) - 0)).tdiv k))) (.atom (.int .i64 (IntKind.i64.wrap ((IntKind.i64.wrap (((xs.length + 6 : Nat) : Int) - 0)).tdiv k)))) (fun _ _ => rfl)
    (says_of fun w _ => run_valS (run_quo _ _ _ _ hk w)) ?_
  refine GD.run (by kernel_rfl) 50 ?_
  refine GD.fin (by kernel_rfl) ?_
  refine G.runE tm 100 ?_
  refine G.condF (b := false) (by kernel_rfl) rfl ?_
  refine G.runE tm 100 ?_
  exact G.retM (codM b v xs) Try.func144 Try.results144 (.int .i64 n) (by kernel_rfl) rfl ⟨[(b, codB v' (xs.length + 6))], [⟨5, 1, v', xs.length + 6, xs ++ numV n⟩]⟩ (nb := 1) (no := 1) (by kernel_rfl) (by kernel_rfl) rfl fun w' hg =>
    ⟨v', rfl, mk_wrote hg (by rw [List.length_append, numV_len]) rfl⟩

def textV (t : ByteArray) : List Value := numV t.size ++ Lib.strCells t
theorem textV_len (t : ByteArray) : (textV t).length = 6 + t.size := by simp [textV, numV_len, Lib.strCells_length]

theorem load9 {pb off : Nat} {arr : Array Value} {T : TypeId} {fr : Nat × Nat} {t : ByteArray} (hp : h pb = some (.cells arr T fr)) (ht : arr[off]? = some (.string t)) (hs : Sub h w) : (Instr.loadAt 9 (.pointer (some ⟨pb, off, none⟩))).run Try.prog w = .ok (.string t) w := by
  have : w.cell? ⟨pb, off, none⟩ = some (.string t) := by rw [cell_of_heap (hs _ _ hp)]; exact ht
  simp [Instr.loadAt, Instr.sureAddr, loadVar, run_isAggP Try.underlying9, isAggD, this]

theorem f151_ok {b : Nat} {v : Value} {xs : List Value} {pb off : Nat} {arr : Array Value} {T : TypeId} {fr : Nat × Nat} {t : ByteArray} (hp : h pb = some (.cells arr T fr)) (ht : arr[off]? = some (.string t)) (hm : MemOk h w (codM b v xs)) (hs : Sub h w) (hn : xs.length + 6 + t.size ≤ 140737488351232) :
    Calls Try.prog 151 #[.pointer (some ⟨b, 0, none⟩), .pointer (some ⟨pb, off, none⟩)] w (Wrote h w b v xs (textV t)) := by
  refine Calls.enterM (codM b v xs) [.atom (.ptr 0 0), .atom (.raw (.pointer (some ⟨pb, off, none⟩)))] Try.func151 (c := bodyOf Try.f151) (by kernel_rfl) Try.ntmps151 (by kernel_rfl) hm ⟨⟨rfl, Nat.zero_lt_one⟩, ⟨rfl, rfl⟩, trivial⟩ (by simp) hs ?_
  refine G.runE tm 100 ?_
  refine G.sem (m := valS (Instr.loadAt 9 (.pointer (some ⟨pb, off, none⟩)))) (d := some 8) (g := none) (by kernel_rfl) (by kernel_rfl) (.string t) (.atom (.str t)) (fun _ _ => rfl) (says_of fun w hw => run_valS (load9 hp ht hw)) ?_
  refine G.runE tm 100 ?_
  refine G.callW 0 0 [] (f := 144) (svs := [.atom (.ptr 0 0), .atom (.int .i64 t.size), .atom (.int .i64 1)]) (d := some 10) (by kernel_rfl) (by kernel_rfl) (by kernel_rfl) (v := v) (n := xs.length) (xs := xs) (by kernel_rfl) (by kernel_rfl) (by kernel_rfl) rfl
    (zs := numV t.size) (r := .int .i64 t.size) (n' := xs.length + 6) (by rw [numV_len]) (fun β w tmps l hS hl hsub hmem => ?_) fun v' => ?_
  · obtain ⟨a1, a2, a3, rfl, ⟨rfl, -⟩, rfl, rfl⟩ := args3 hl
    exact f144_ok (by decide) hmem hsub (by omega)
  refine G.runE tm 100 ?_
  refine G.condT (b := true) (by kernel_rfl) rfl ?_
  refine G.runE tm 100 ?_
  refine G.draw [] tm (by kernel_rfl) (by kernel_rfl) ?_
  refine GD.run (by kernel_rfl) 50 ?_
  refine GD.sem 7 (m := valS (Instr.loadAt 9 (.pointer (some ⟨pb, off, none⟩)))) (dst := some 22) (g := none) (by kernel_rfl) (by kernel_rfl) (.string t) (.atom (.str t)) (fun _ _ => rfl) (says_of fun w hw => run_valS (load9 hp ht hw)) ?_
  refine GD.run (by kernel_rfl) 50 ?_
  refine GD.one 8 (by kernel_rfl) (GDop.appStr (T := 40) (U := 9) (v := v') (m := xs.length + 6) (xs := xs ++ numV t.size) (b := t) (d := some 23) st40 0 (by kernel_rfl) (by kernel_rfl) (by kernel_rfl) hn fun v'' => ?_)
  refine GD.run (by kernel_rfl) 50 ?_
  refine GD.fin (by kernel_rfl) ?_
  refine G.runE tm 100 ?_
  exact G.retM (codM b v xs) Try.func151 Try.results151 (.tuple #[]) (by kernel_rfl) rfl ⟨[(b, codB v'' (xs.length + 6 + t.size))], [⟨5, 1, v'', xs.length + 6 + t.size, (xs ++ numV t.size) ++ Lib.strCells t⟩]⟩ (nb := 1) (no := 1) (by kernel_rfl) (by kernel_rfl) rfl fun w' hg =>
    ⟨v'', rfl, mk_wrote hg (by rw [List.length_append, textV_len]; omega) (by simp only [textV, List.append_assoc])⟩

def rulB (r : Rul) : List Value := [r.id, r.pri, r.act, r.sco].flatMap numV ++ textV r.pat
theorem rulB_len (r : Rul) : (rulB r).length = 30 + r.pat.size := by simp only [rulB, List.length_append, flat_len, textV_len, List.length_cons, List.length_nil]; omega
def rulA (r : Rul) : Array Value := #[.int .i64 r.id, .int .i64 r.pri, .int .i64 r.act, .int .i64 r.sco, .string r.pat]

theorem f146_ok {b : Nat} {v : Value} {xs : List Value} {rb : Nat} {T : TypeId} {fr : Nat × Nat} {r : Rul} (hp : h rb = some (.cells (rulA r) T fr)) (hm : MemOk h w (codM b v xs)) (hs : Sub h w) (hn : xs.length + (rulB r).length ≤ 140737488351232) :
    Calls Try.prog 146 #[.pointer (some ⟨b, 0, none⟩), .pointer (some ⟨rb, 0, none⟩)] w (Wrote h w b v xs (rulB r)) := by
  rw [rulB_len] at hn
  refine Calls.enterM (codM b v xs) [.atom (.ptr 0 0), .atom (.raw (.pointer (some ⟨rb, 0, none⟩)))] Try.func146 (c := bodyOf Try.f146) (by kernel_rfl) Try.ntmps146 (by kernel_rfl) hm ⟨⟨rfl, Nat.zero_lt_one⟩, ⟨rfl, rfl⟩, trivial⟩ (by simp) hs ?_
  refine G.runE tm 100 ?_
  refine G.draw [] tm (by kernel_rfl) (by kernel_rfl) ?_
  refine GD.run (by kernel_rfl) 50 ?_
  refine GD.one 14 (by kernel_rfl) (GDop.callW 0 0 [1] (f := 118) (svs := [.atom (.ptr 0 0), .atom (.bsl 1 0 4 4)]) (d := some 18) (by kernel_rfl) (by kernel_rfl) (by kernel_rfl) (v := v) (n := xs.length) (xs := xs) (by kernel_rfl) (by kernel_rfl) (by kernel_rfl) (by kernel_rfl) (by kernel_rfl) rfl
    (zs := [r.id, r.pri, r.act, r.sco].flatMap numV) (r := .tuple #[]) (n' := xs.length + 24) (by rw [flat_len]; rfl) (fun β w tmps l hS hl hsub hmem => ?_) fun v' => ?_)
  · obtain ⟨a1, a2, rfl, ⟨rfl, -⟩, ⟨rfl, -⟩⟩ := args2 hl
    have h1 := hS.ptrs (ro := [1]) (q := 1) (bi := none) (T := 171) (cs := [.raw (.pointer (some ⟨rb, 0, none⟩)), .raw (.pointer (some ⟨rb, 1, none⟩)), .raw (.pointer (some ⟨rb, 2, none⟩)), .raw (.pointer (some ⟨rb, 3, none⟩))]) (l := [r.id, r.pri, r.act, r.sco]) (by kernel_rfl) (by simp)
      ⟨⟨_, _, _, hp, rfl⟩, ⟨_, _, _, hp, rfl⟩, ⟨_, _, _, hp, rfl⟩, ⟨_, _, _, hp, rfl⟩, trivial⟩ (by simp)
    exact f118_ok (v := v) (xs := xs) h1 hmem hsub (by simp only [List.length_cons, List.length_nil]; omega)
  refine GD.run (by kernel_rfl) 50 ?_
  refine GD.fin (by kernel_rfl) ?_
  refine G.runE tm 100 ?_
  refine G.callW 0 0 [] (f := 151) (svs := [.atom (.ptr 0 0), .atom (.raw (.pointer (some ⟨rb, 4, none⟩)))]) (d := some 23) (by kernel_rfl) (by kernel_rfl) (by kernel_rfl) (v := v') (n := xs.length + 24) (xs := xs ++ [r.id, r.pri, r.act, r.sco].flatMap numV) (by kernel_rfl) (by kernel_rfl) (by kernel_rfl) (by rw [List.length_append, flat_len]; rfl)
    (zs := textV r.pat) (r := .tuple #[]) (n' := xs.length + 30 + r.pat.size) (by rw [textV_len]; omega) (fun β w tmps l hS hl hsub hmem => ?_) fun v'' => ?_
  · obtain ⟨a1, a2, rfl, ⟨rfl, -⟩, ⟨rfl, -⟩⟩ := args2 hl
    exact f151_ok (hS.roLe [] _ _ hp) rfl hmem hsub (by rw [List.length_append, flat_len]; simp only [List.length_cons, List.length_nil]; omega)
  refine G.runE tm 100 ?_
  exact G.retM (codM b v xs) Try.func146 Try.results146 (.tuple #[]) (by kernel_rfl) rfl ⟨[(b, codB v'' (xs.length + 30 + r.pat.size))], [⟨5, 1, v'', xs.length + 30 + r.pat.size, (xs ++ [r.id, r.pri, r.act, r.sco].flatMap numV) ++ textV r.pat⟩]⟩ (nb := 1) (no := 1) (by kernel_rfl) (by kernel_rfl) rfl fun w' hg =>
    ⟨v'', rfl, mk_wrote hg (by rw [List.length_append, rulB_len]; omega) (by simp only [rulB, List.append_assoc])⟩
end w
end Go.Proofs.Ytkjahaoobdbffaa
