/- The codec as a reader of what it has written: counts, texts, rules. -/
import Derived.Laws.BytesString
import Derived.Test.YtkjahaoobdbffaaB15
import Derived.Test.YtkjahaoobdbffaaK15
namespace Go.Proofs.Ytkjahaoobdbffaa
open Go Go.RowKit
attribute [local irreducible] G GD GDop

def rdM1 (b : Nat) (dv : Value) (n pos : Nat) : Mem := ⟨[(b, rdB dv n pos)], []⟩

/-- What a call that reads numbers into a target leaves. -/
def Read (h : GH) (w : World) (b tb : Nat) (T : TypeId) (dv : Value) (n pos pos' : Nat) (arr arr' : Array Value) (r : Value) (e : Ending) (w' : World) : Prop :=
  e = .returned r ∧ Mend h w (rdM b tb T dv n pos arr) h w' (rdM b tb T dv n pos' arr')

theorem G.callRd {C : Ctx} {h : GH} {c : Cfg} {f : FuncId} {svs : List SV1} {d : Option Nat} (kc kt : Nat) (ro : List Nat) (hc : callView c = some ⟨f, svs, d, none⟩) (he : enters C.P f = true) (hd : dstOk C.n d = true) {T : TypeId} {dv : Value} {n pos : Nat} {arr : Array Value}
    (hb : pickB c.s.boxes [kc, kt] = some [rdB dv n pos, .obj (.cells arr T (0, 0))]) (hh : handOk c.s [kc, kt] [] ro = true) {pos' : Nat} {arr' : Array Value} {r : Value}
    (hcall : ∀ β w tmps l, Sim C.hE C.w0 C.inc C.n c.s h β w tmps → SV1sOk c.s.nb β svs l → Sub (roH h β w ro) w → MemOk (roH h β w ro) w (rdM (β kc) (β kt) T dv n pos arr) → Calls C.P f l.toArray w (Read (roH h β w ro) w (β kc) (β kt) T dv n pos pos' arr arr' r))
    (hk : G C h (afterOp (withS c (putMem c.s [kc, kt] [] [rdB dv n pos', .obj (.cells arr' T (0, 0))] [])) (.ofV r))) : G C h c := by
  refine G.callM [kc, kt] [] ro hc he hd hb (os := []) rfl hh (fun h' r' bs' os' => h' = h ∧ r' = r ∧ bs' = [rdB dv n pos', .obj (.cells arr' T (0, 0))] ∧ os' = []) (fun β w tmps l hS hl hsub hmem => ?_) ?_
  · refine (hcall β w tmps l hS hl hsub hmem).mono ?_
    rintro e w' ⟨rfl, hm⟩
    simp only [handOk, Bool.and_eq_true] at hh
    exact ⟨r, [rdB dv n pos', .obj (.cells arr' T (0, 0))], [], _, rfl, rfl, rfl, hm, hS.hideRo hh.1.2, rfl, rfl, rfl⟩
  · rintro h' r' bs' os' ⟨rfl, rfl, rfl, rfl⟩ -
    exact ⟨_, fun N β tmps => SVofV_ok N β tmps _, hk⟩

theorem GDop.callRd {C : Ctx} {h0 h : GH} {ops : Array Oper} {k : List Item} {kl : List Nat} {c : DCfg} {i : Nat} {f : FuncId} {svs : List SV1} {d : Option Nat} (kc kt : Nat) (ro : List Nat) (hc : callAtD ops c i = some ⟨f, svs, d, none⟩) (he : enters C.P f = true) (hd : dstOk C.n d = true) {T : TypeId} {dv : Value} {n pos : Nat} {arr : Array Value}
    (hb : pickB c.s.boxes [kc, kt] = some [rdB dv n pos, .obj (.cells arr T (0, 0))]) (hh : handOk c.s [kc, kt] [] ro = true) (hlv : liveAll kl c.s = true) (hdk : disj kl [kc, kt] = true) {pos' : Nat} {arr' : Array Value} {r : Value}
    (hcall : ∀ β w tmps l, Sim C.hE C.w0 C.inc C.n c.s h β w tmps → SV1sOk c.s.nb β svs l → Sub (roH h β w ro) w → MemOk (roH h β w ro) w (rdM (β kc) (β kt) T dv n pos arr) → Calls C.P f l.toArray w (Read (roH h β w ro) w (β kc) (β kt) T dv n pos pos' arr arr' r))
    (hk : GD C h0 h ops k kl (afterN ops c i (putMem c.s [kc, kt] [] [rdB dv n pos', .obj (.cells arr' T (0, 0))] []) (.ofV r))) : GDop C h0 h ops k kl c i := by
  refine GDop.callM [kc, kt] [] ro hc he hd hb (os := []) rfl hh hlv hdk (fun h' r' bs' os' => h' = h ∧ r' = r ∧ bs' = [rdB dv n pos', .obj (.cells arr' T (0, 0))] ∧ os' = []) (fun β w tmps l hS hl hsub hmem => ?_) ?_
  · refine (hcall β w tmps l hS hl hsub hmem).mono ?_
    rintro e w' ⟨rfl, hm⟩
    simp only [handOk, Bool.and_eq_true] at hh
    exact ⟨r, [rdB dv n pos', .obj (.cells arr' T (0, 0))], [], _, rfl, rfl, rfl, hm, hS.hideRo hh.1.2, rfl, rfl, rfl⟩
  · rintro h' r' bs' os' ⟨rfl, rfl, rfl, rfl⟩ -
    exact ⟨_, fun N β tmps => SVofV_ok N β tmps _, hk⟩

def toPtrs (kt : Nat) (ps : List (Nat × Int)) : List Cell := ps.map fun p => .ptr kt p.1

theorem Sim.ptrsTo {hE : GH} {w0 : World} {inc : List Nat} {n : Nat} {s : S} {h : GH} {β : Nat → Nat} {w : World} {tmps : Array Value} (hS : Sim hE w0 inc n s h β w tmps) {ro : List Nat} {q kt : Nat} {bi : Option Nat} {T : TypeId} {ps : List (Nat × Int)} (hb : bx q s.boxes = some ⟨bi, .lit T (toPtrs kt ps)⟩) (hq : q ∈ ro) (hl : ps.length ≤ 1000) :
    SlR (roH h β w ro) 1 (PtrToR (β kt)) (.slice (some ⟨β q, 0, none⟩) ps.length ps.length) ps := by
  obtain ⟨arr, h1, h2⟩ := hS.box q _ hb
  have hlen := h2.length
  simp [toPtrs] at hlen
  refine ⟨_, _, rfl, Nat.le_refl _, by omega, .inr ⟨β q, 0, arr, T, (0, 0), rfl, by rw [roH_ro hq]; exact h1, by omega, fun i x hx => ?_⟩⟩
  have hx' : (toPtrs kt ps)[i]? = some (.ptr kt x.1) := by simp [toPtrs, hx]
  obtain ⟨u, h3, h4⟩ := h2.get hx'
  have : (arr.toList.drop (0 + i * 1)).take 1 = [u] := by
    rw [show 0 + i * 1 = i by omega]
    obtain ⟨hi, rfl⟩ := List.getElem?_eq_some_iff.1 h3
    rw [List.drop_eq_getElem_cons hi]; simp
  rw [this, PtrToR, h4.1]

/-! ### Bytes as a string -/

def bstr (ns : List Int) : ByteArray := ns.foldl (fun r n => r.push (UInt8.ofNat n.toNat)) ByteArray.empty

theorem bstr_cells (t : ByteArray) : bstr (t.data.toList.map fun b => (b.toNat : Int)) = t := by
  have h : ∀ (l : List UInt8) (a : ByteArray), (l.map fun b => ((b.toNat : Nat) : Int)).foldl (fun r n => r.push (UInt8.ofNat n.toNat)) a = ⟨a.data ++ l.toArray⟩ := by
    intro l
    induction l with
    | nil => intro a; cases a; simp
    | cons x l ih =>
      intro a
      simp only [List.map_cons, List.foldl_cons, Int.toNat_natCast, UInt8.ofNat_toNat]
      rw [ih]
      cases a with
      | mk d => simp [ByteArray.push]
  unfold bstr
  rw [h]
  cases t; simp [ByteArray.empty, ByteArray.emptyWithCapacity]; rfl

theorem BytesR.str {h : GH} {v : Value} {ns : List Int} (hs : BytesR h v (ns.map (Value.int .u8))) {w : World} (hw : Sub h w) : (convert 40 9 v).run Try.prog w = .ok (.string (bstr ns)) w := by
  obtain ⟨ao, cap, rfl, hc, hm, h4⟩ := hs
  rw [run_convert_bytes_string w 40 9 5 _ _ _ Try.underlying40 Try.underlying5 Try.underlying9]
  rcases h4 with h4 | ⟨b, off, arr, T', fr, rfl, e2, e3, e4⟩
  · have : ns = [] := by simpa using h4
    subst this
    cases ao with
    | none => simp [Conv.bytesToString, bstr]
    | some a =>
      refine run_bytesToString w a _ _ [] ?_
      have := run_loadCells_list (P := Try.prog) w a [] (fun j v hj => by simp at hj)
      simpa using this
  · refine run_bytesToString w ⟨b, off, none⟩ _ _ ns ?_
    have := run_loadCells_heap (P := Try.prog) (hw _ _ e2) (off := off) (m := (ns.map (Value.int .u8)).length) (by simpa using e3)
    rw [this]
    congr 2
    apply List.ext_getElem?
    intro i
    by_cases hi : i < ns.length
    · have hx : (ns.map (Value.int .u8))[i]? = some (.int .u8 ns[i]) := by simp [hi]
      have h5 := e4 i _ hx
      simp only [CellR, Nat.mul_one] at h5
      rw [hx, List.getElem?_take, if_pos (by simpa using hi), List.getElem?_drop]
      have h6 := congrArg (fun l => l[0]?) h5
      simp only [List.getElem?_take, List.getElem?_drop, List.getElem?_cons_zero] at h6
      simpa using h6
    · rw [List.getElem?_eq_none (by simp; omega), List.getElem?_eq_none (by simp; omega)]

section r
variable {h : GH} {w : World}

theorem f144r_ok {b : Nat} {dv : Value} {xs rest : List Value} {pos : Nat} {n n0 k : Int} (hd : BytesR h dv xs) (hn : 0 ≤ n ∧ n ≤ 2 ^ 47) (hk : 0 < k) (hx : xs.drop pos = numV n ++ rest) (hle : n * k ≤ rest.length) (hm : MemOk h w (rdM1 b dv xs.length pos)) (hs : Sub h w) :
    Calls Try.prog 144 #[.pointer (some ⟨b, 0, none⟩), .int .i64 n0, .int .i64 k] w fun e w' => e = .returned (.int .i64 n) ∧ Mend h w (rdM1 b dv xs.length pos) h w' (rdM1 b dv xs.length (pos + 6)) := by
  have hdl := SlR.len hd
  have hxl : xs.length = pos + 6 + rest.length := by
    have := congrArg List.length hx
    rw [List.length_drop, List.length_append, numV_len] at this; omega
  refine Calls.enterM (rdM1 b dv xs.length pos) [.atom (.ptr 0 0), .atom (.int .i64 n0), .atom (.int .i64 k)] Try.func144 (c := bodyOf Try.f144) (by kernel_rfl) Try.ntmps144 (by kernel_rfl) hm ⟨⟨rfl, Nat.zero_lt_one⟩, rfl, rfl, trivial⟩ (by simp) hs ?_
  refine G.runE tm 100 ?_
  refine G.rebox 1 (b := ⟨none, .lit 3 [.int .i64 n0]⟩) (x := .obj (.cells #[.int .i64 n0] 3 (0, 0))) (by kernel_rfl) (fun β w hh => BoxOk.toObj rfl hh) ?_
  refine G.callRd 0 1 [2] (f := 118) (svs := [.atom (.ptr 0 0), .atom (.bsl 2 0 1 1)]) (d := some 9) (by kernel_rfl) (by kernel_rfl) (by kernel_rfl) (T := 3) (dv := dv) (n := xs.length) (pos := pos) (arr := #[.int .i64 n0]) (by kernel_rfl) (by kernel_rfl)
    (pos' := pos + 6) (arr' := #[.int .i64 n]) (r := .tuple #[]) (fun β w tmps l hS hl hsub hmem => ?_) ?_
  · obtain ⟨a1, a2, rfl, ⟨rfl, -⟩, ⟨rfl, -⟩⟩ := args2 hl
    exact f118r_ok (ps := [(0, n)]) (rest := rest) (SlR.mono hd (hS.roLe [2]) fun _ _ h => h) (hS.ptrsTo (ro := [2]) (q := 2) (kt := 1) (bi := none) (T := 171) (ps := [(0, n)]) (by kernel_rfl) (by simp) (by simp))
      (by intro p hp; simp only [List.mem_singleton] at hp; subst hp; exact ⟨by simp, by have := hn.1; simp only; unfold numOk; omega⟩) (by simpa using hx) hmem hsub
  refine G.rebox 1 (b := ⟨none, .obj (.cells #[.int .i64 n] 3 (0, 0))⟩) (x := .lit 3 [.int .i64 n]) (by kernel_rfl) (fun β w hh => BoxOk.toLit (cs := [.int .i64 n]) (show CellsOk _ _ [.int .i64 n] [.int .i64 n] from ⟨rfl, trivial⟩) hh) ?_
  refine G.runE tm 100 ?_
  refine G.draw [0, 1] tm (by kernel_rfl) (by kernel_rfl) ?_
  refine GD.run (by kernel_rfl) 50 ?_
  refine GD.sem 27 (m := valS (do eqGuard .quo 3 (.tmp 35) (.tmp 36) (.int .i64 (IntKind.i64.wrap ((xs.length : Int) - ((pos + 6 : Nat) : Int)))) (.int .i64 k); binOp .quo 3 (.int .i64 (IntKind.i64.wrap ((xs.length : Int) - ((pos + 6 : Nat) : Int)))) (.int .i64 k))) (dst := some 37) (g := some (24, false)) (by kernel_rfl) (by kernel_rfl)
    (.int .i64 (IntKind.i64.wrap ((IntKind.i64.wrap ((xs.length : Int) - ((pos + 6 : Nat) : Int))).tdiv k))) (.atom (.int .i64 (IntKind.i64.wrap ((IntKind.i64.wrap ((xs.length : Int) - ((pos + 6 : Nat) : Int))).tdiv k)))) (fun _ _ => rfl)
    (says_of fun w _ => run_valS (run_quo _ _ _ _ hk w)) ?_
  refine GD.run (by kernel_rfl) 50 ?_
  refine GD.fin (by kernel_rfl) ?_
  refine G.runE tm 100 ?_
  refine G.condF (b := (decide (n < 0) || decide (n > IntKind.i64.wrap ((IntKind.i64.wrap ((xs.length : Int) - ((pos + 6 : Nat) : Int))).tdiv k)))) (by kernel_rfl) (by
    have h1 : (xs.length : Int) - ((pos + 6 : Nat) : Int) = rest.length := by omega
    rw [h1, IntWalk.i64_in (rest.length : Int) (by omega)]
    have h2 : (rest.length : Int).tdiv k = rest.length / k := Int.tdiv_eq_ediv_of_nonneg (by omega)
    have h3 : n ≤ (rest.length : Int) / k := Int.le_ediv_of_mul_le hk hle
    have h4 : (rest.length : Int) / k ≤ rest.length := Int.ediv_le_self _ (by omega)
    rw [h2, IntWalk.i64_in _ (by omega)]
    simp; omega) ?_
  refine G.runE tm 100 ?_
  exact G.retM (rdM1 b dv xs.length pos) Try.func144 Try.results144 (.int .i64 n) (by kernel_rfl) rfl (rdM1 b dv xs.length (pos + 6)) (nb := 1) (no := 0) (by kernel_rfl) (by kernel_rfl) rfl fun w' hg => ⟨rfl, hg⟩
end r
end Go.Proofs.Ytkjahaoobdbffaa
