/- The codec as a reader of what it has written: numbers. -/
import Derived.Test.YtkjahaoobdbffaaK11
import Derived.Test.YtkjahaoobdbffaaB14
namespace Go.Proofs.Ytkjahaoobdbffaa
open Go Go.RowKit
attribute [local irreducible] G GD GDop

theorem or_byte (x b : Nat) (hb : b < 256) (hx : 256 * x + b < 2 ^ 63) : IntKind.i64.wrap ((BitVec.ofInt 64 ((256 * x : Nat) : Int) ||| BitVec.ofInt 64 (b : Int)).toNat : Int) = ((256 * x + b : Nat) : Int) := by
  have h1 : (BitVec.ofInt 64 ((256 * x : Nat) : Int)).toNat = 256 * x := by rw [BitVec.toNat_ofInt]; omega
  have h2 : (BitVec.ofInt 64 ((b : Nat) : Int)).toNat = b := by rw [BitVec.toNat_ofInt]; omega
  rw [BitVec.toNat_or, h1, h2]
  have h3 : 256 * x ||| b = 256 * x + b := by
    have := Nat.shiftLeft_add_eq_or_of_lt (b := b) (i := 8) (by omega) x
    rw [Nat.shiftLeft_eq] at this
    rw [show 256 * x = x * 2 ^ 8 by omega]
    exact this.symm
  rw [h3, IntWalk.i64_in _ (by omega)]

theorem run_or {T : TypeId} (o1 o2 : Operand) (x b : Nat) (hb : b < 256) (hx : 256 * x + b < 2 ^ 63) (w : World) :
    (do eqGuard .or T o1 o2 (.int .i64 ((256 * x : Nat) : Int)) (.int .i64 (b : Int)); binOp .or T (.int .i64 ((256 * x : Nat) : Int)) (.int .i64 (b : Int))).run Try.prog w = .ok (.int .i64 ((256 * x + b : Nat) : Int)) w := by
  have := or_byte x b hb hx
  simp only [binOp, Sem.run_bind, run_eqGuard_int, Result.andThen_ok, Op.intBits, ne_eq, not_true_eq_false, if_false, Sem.run_pure]
  exact congrArg (fun z => Result.ok (Value.int .i64 z) w) this

theorem run_shl8 {T : TypeId} (o1 o2 : Operand) (x : Nat) (hx : 256 * x < 2 ^ 63) (w : World) :
    (do eqGuard .shl T o1 o2 (.int .i64 (x : Int)) (.int .u64 8); binOp .shl T (.int .i64 (x : Int)) (.int .u64 8)).run Try.prog w = .ok (.int .i64 ((256 * x : Nat) : Int)) w := by
  have : IntKind.i64.wrap ((x : Int) * 2 ^ min 8 IntKind.i64.bits) = 256 * (x : Int) := by
    rw [show min 8 IntKind.i64.bits = 8 from rfl, IntWalk.i64_in _ (by omega)]; omega
  simp [run_eqGuard_int, binOp, Op.shift, this]

/-- Numbers that are read as they were written. -/
def numOk (n : Int) : Prop := -1 ≤ n ∧ n ≤ 2 ^ 47

theorem byteV_ok {n : Int} (hn : numOk n) {j : Nat} (_hj : j < 6) : byteV n j = .int .u8 (((n + 1).toNat / 2 ^ (40 - 8 * j) % 256 : Nat) : Int) := by
  obtain ⟨h1, h2⟩ := hn
  unfold byteV
  rw [IntWalk.i64_in _ (by omega)]
  obtain ⟨N, hN⟩ : ∃ N : Nat, n + 1 = N := ⟨(n + 1).toNat, by omega⟩
  rw [hN, Int.toNat_natCast, IntKind.wrap_u8]
  have e2 : ((N : Int) / 2 ^ (40 - 8 * j)) = ((N / 2 ^ (40 - 8 * j) : Nat) : Int) := by simp
  rw [e2]
  generalize N / 2 ^ (40 - 8 * j) = M
  congr 1

theorem val_step (N : Nat) {j : Nat} (hj : j < 6) : 256 * (N / 2 ^ (48 - 8 * j)) + N / 2 ^ (40 - 8 * j) % 256 = N / 2 ^ (48 - 8 * (j + 1)) := by
  have e : 2 ^ (48 - 8 * j) = 2 ^ (40 - 8 * j) * 256 := by rw [show (256 : Nat) = 2 ^ 8 by rfl, ← Nat.pow_add]; congr 1; omega
  rw [e, ← Nat.div_div_eq_div_mul, show 48 - 8 * (j + 1) = 40 - 8 * j by omega]
  omega

def rdB (dv : Value) (n pos : Nat) : BoxB := .lit 127 [.sl dv n, .int .i64 pos, .bool false, .bool false]
def rdM (b tb : Nat) (T : TypeId) (dv : Value) (n pos : Nat) (arr : Array Value) : Mem := ⟨[(b, rdB dv n pos), (tb, .obj (.cells arr T (0, 0)))], []⟩
def putAll (arr : Array Value) (ps : List (Nat × Int)) : Array Value := ps.foldl (fun a p => putCell a p.1 (.int .i64 p.2)) arr

theorem putAll_snoc {arr : Array Value} {ps : List (Nat × Int)} {i : Nat} {p : Nat × Int} (h : ps[i]? = some p) : putAll arr (ps.take (i + 1)) = putCell (putAll arr (ps.take i)) p.1 (.int .i64 p.2) := by
  rw [List.take_add_one, h]; simp [putAll]

/-- A pointer into the target. -/
def PtrToR (tb : Nat) (cs : List Value) (p : Nat × Int) : Prop := cs = [.pointer (some ⟨tb, p.1, none⟩)]

/-- A part of a slice that nobody writes. -/
theorem SlR.cut {α : Type} {P : Program} {T E : TypeId} {h : GH} {sz : Nat} {R : List Value → α → Prop} {v : Value} {l : List α} (hs : SlR h sz R v l) (hu : P.underlying T = some (.slice E)) (hz : sizeP P E = some sz) {lo hi : Nat} (h1 : lo ≤ hi) (h2 : hi ≤ l.length) :
    ∃ v', SlR h sz R v' ((l.drop lo).take (hi - lo)) ∧ ∀ w, (Instr.sliceAt T v (some (.int .i64 lo)) (some (.int .i64 hi)) none).run P w = .ok v' w := by
  obtain ⟨ao, cap, rfl, hc, hm, h4⟩ := hs
  have hlen : ((l.drop lo).take (hi - lo)).length = hi - lo := by simp; omega
  refine ⟨.slice (if cap = lo then ao else ao.map (·.add (lo * sz))) (hi - lo) (cap - lo), ⟨_, _, by rw [hlen], by rw [hlen]; omega, by rw [hlen]; omega, ?_⟩, fun w => ?_⟩
  · by_cases he : hi = lo
    · left; subst he; simp
    · right
      have hcl : ¬ cap = lo := by omega
      rcases h4 with rfl | ⟨b, off, arr, T', fr, rfl, e2, e3, e4⟩
      · simp at h2; omega
      · refine ⟨b, off + lo * sz, arr, T', fr, by rw [if_neg hcl]; simp [Addr.add_lit], e2, ?_, fun i x hx => ?_⟩
        · rw [hlen]
          have : (lo + (hi - lo)) * sz ≤ l.length * sz := Nat.mul_le_mul_right _ (by omega)
          rw [Nat.add_mul] at this; omega
        · have hi' : i < hi - lo := by rw [← hlen]; exact (List.getElem?_eq_some_iff.1 hx).1
          rw [List.getElem?_take, if_pos hi', List.getElem?_drop] at hx
          have := e4 (lo + i) x hx
          rw [Nat.add_mul] at this
          rw [show off + lo * sz + i * sz = off + (lo * sz + i * sz) by omega]; exact this
  · have hb1 : (0 : Int) ≤ (hi : Int) ∧ (hi : Int) ≤ (cap : Int) := ⟨by omega, by omega⟩
    have hb2 : (0 : Int) ≤ (lo : Int) ∧ (lo : Int) ≤ (hi : Int) := ⟨by omega, by omega⟩
    have hcap : hi ≤ cap := by omega
    simp [Instr.sliceAt, run_underlying hu, Instr.slice, Instr.sliceBounds, Instr.sliceBound, asIntOf, hcap, h1, run_sizeP hz]

theorem z5 : sizeP Try.prog 5 = some 1 := by kernel_rfl
theorem u5 : ∃ d, Try.prog.underlying 5 = some d ∧ isAggD d = false := ⟨_, Try.underlying5, rfl⟩

/-- The bytes that come next. -/
theorem next_bytes {xs : List Value} {pos i : Nat} {ps : List (Nat × Int)} {rest : List Value} (hx : xs.drop pos = (ps.flatMap fun p => numV p.2) ++ rest) {p : Nat × Int} (hp : ps[i]? = some p) :
    (xs.drop (pos + 6 * i)).take 6 = numV p.2 ∧ pos + 6 * i + 6 ≤ xs.length := by
  have hlen : ∀ (l : List (Nat × Int)), (l.flatMap fun p => numV p.2).length = 6 * l.length := by
    intro l; induction l with
    | nil => rfl
    | cons a l ih => simp [ih, numV_len]; omega
  have hi := (List.getElem?_eq_some_iff.1 hp).1
  have h1 : ps = ps.take i ++ p :: ps.drop (i + 1) := by
    have := List.take_append_drop i ps
    rw [List.drop_eq_getElem_cons hi] at this
    obtain ⟨_, rfl⟩ := List.getElem?_eq_some_iff.1 hp
    exact this.symm
  have h2 : xs.drop (pos + 6 * i) = numV p.2 ++ (((ps.drop (i + 1)).flatMap fun p => numV p.2) ++ rest) := by
    rw [← List.drop_drop, hx]
    conv => lhs; rw [h1]
    rw [List.flatMap_append, List.flatMap_cons, List.append_assoc, List.append_assoc]
    exact List.drop_left' (by rw [hlen, List.length_take]; omega)
  constructor
  · rw [h2]; exact List.take_left' (numV_len _)
  · have := congrArg List.length h2
    rw [List.length_drop, List.length_append, numV_len] at this
    omega

section r
variable {h : GH} {w : World}

set_option maxHeartbeats 2000000 in
theorem f118r_ok {b tb : Nat} {T : TypeId} {dv vs : Value} {xs rest : List Value} {pos : Nat} {arr : Array Value} {ps : List (Nat × Int)} (hd : BytesR h dv xs) (hl : SlR h 1 (PtrToR tb) vs ps) (hoff : ∀ p ∈ ps, p.1 < arr.size ∧ numOk p.2)
    (hx : xs.drop pos = (ps.flatMap fun p => numV p.2) ++ rest) (hm : MemOk h w (rdM b tb T dv xs.length pos arr)) (hs : Sub h w) :
    Calls Try.prog 118 #[.pointer (some ⟨b, 0, none⟩), vs] w fun e w' => e = .returned (.tuple #[]) ∧ Mend h w (rdM b tb T dv xs.length pos arr) h w' (rdM b tb T dv xs.length (pos + 6 * ps.length) (putAll arr ps)) := by
  have hlen := hl.len
  have hdl := SlR.len hd
  refine Calls.enterM (rdM b tb T dv xs.length pos arr) [.atom (.ptr 0 0), .atom (.sl vs ps.length)] Try.func118 (c := bodyOf Try.f118) (by kernel_rfl) Try.ntmps118 (by kernel_rfl) hm ⟨⟨rfl, Nat.zero_lt_two⟩, hl.sv _ _, trivial⟩ (by simp) hs ?_
  refine G.runE tm 100 ?_
  refine G.loop (α := Nat × Array Value × Nat)
    (fun x => ⟨[(0, .one (.atom (.ptr 0 0))), (10, .one (.atom (.sl vs ps.length))), (11, .one (.atom (.int .i64 ps.length))), (12, .one (.atom (.int .i64 x.1)))],
      [(0, ⟨some b, rdB dv xs.length x.2.2⟩), (1, ⟨some tb, .obj (.cells x.2.1 T (0, 0))⟩)], 2, []⟩)
    (fun x g => g = h ∧ x.1 ≤ ps.length ∧ x.2.1 = putAll arr (ps.take x.1) ∧ x.2.1.size = arr.size ∧ x.2.2 = pos + 6 * x.1) (fun x => ps.length - x.1) (0, arr, pos) [0, 10, 11, 12] [0, 1] 2 [] (by kernel_rfl) (by kernel_rfl) (by kernel_rfl) ⟨rfl, Nat.zero_le _, by simp [putAll], rfl, rfl⟩ ?_
  rintro ⟨i, arr', q⟩ g ⟨rfl, hi, harr, hsz, hq⟩ IH
  simp only at hi harr hsz hq
  refine G.runE tm 100 ?_
  refine G.cond (decide ((i : Int) < (ps.length : Int))) (by kernel_rfl) (fun hc => ?_) (fun hc => ?_)
  · have hlt : i < ps.length := by simpa using hc
    obtain ⟨⟨o, n⟩, ho⟩ := get_of_lt hlt
    obtain ⟨hof, hn⟩ := hoff _ (List.mem_of_getElem? ho)
    obtain ⟨hcutE, hq6⟩ := next_bytes hx ho
    rw [← hq] at hcutE hq6
    simp only at hof hn hcutE
    refine G.runE tm 100 ?_
    refine G.idx (d1 := some 14) (g := none) (T := 185) (E := 171) hl Try.underlying185 z171 hlt (by kernel_rfl) (by kernel_rfl) ?_
    refine G.el1 (d1 := some 15) (g := none) (E := 171) hl u171 ho (by kernel_rfl) (by kernel_rfl) fun p hp => ?_
    obtain rfl : p = .pointer (some ⟨tb, o, none⟩) := by simpa [PtrToR] using hp
    refine ⟨.atom (.raw (.pointer (some ⟨tb, o, none⟩))), fun _ _ => ⟨rfl, rfl⟩, ?_⟩
    refine G.toPtr 15 1 (b := tb) (off := o) (x := .obj (.cells arr' T (0, 0))) (by kernel_rfl) (by kernel_rfl) ?_
    refine G.runE tm 100 ?_
    refine G.condF (b := false) (by kernel_rfl) rfl ?_
    refine G.runE tm 100 ?_
    refine G.draw [1] tm (by kernel_rfl) (by kernel_rfl) ?_
    refine GD.run (by kernel_rfl) 50 ?_
    refine GD.two 9 14 (by kernel_rfl) (GDop.effG (by kernel_rfl) (GD.run (by kernel_rfl) 50 (GD.one 14 (by kernel_rfl) (GDop.effG (by kernel_rfl) ?_))))
      (GDop.effG (by kernel_rfl) (GD.run (by kernel_rfl) 50 (GD.one 9 (by kernel_rfl) (GDop.effG (by kernel_rfl) ?_))))
    all_goals
      refine GD.run (by kernel_rfl) 50 ?_
      refine GD.fin (by kernel_rfl) ?_
      refine G.runE tm 100 ?_
      have hb : decide (IntKind.i64.wrap ((xs.length : Int) - (q : Int)) < 6) = false := by rw [IntWalk.i64_in _ (by omega)]; simp; omega
      refine G.condF (b := decide (IntKind.i64.wrap ((xs.length : Int) - (q : Int)) < 6)) (by kernel_rfl) hb ?_
      refine G.rebox 0 (b := ⟨some b, .lit 127 [.sl dv xs.length, .int .i64 q, .bool false, .bool (decide (IntKind.i64.wrap ((xs.length : Int) - (q : Int)) < 6))]⟩) (x := rdB dv xs.length q) (by kernel_rfl)
        (fun β w hh => by rw [hb] at hh; exact hh) ?_
      have hw6 : IntKind.i64.wrap ((q : Int) + 6) = ((q + 6 : Nat) : Int) := by rw [IntWalk.i64_in _ (by omega)]; rfl
      obtain ⟨cv, hcut, hrun⟩ := SlR.cut (P := Try.prog) (T := 40) (E := 5) hd Try.underlying40 z5 (lo := q) (hi := q + 6) (by omega) hq6
      rw [Nat.add_sub_cancel_left, hcutE] at hcut
      refine G.runE tm 100 ?_
      refine G.draw [0, 1] tm (by kernel_rfl) (by kernel_rfl) ?_
      refine GD.run (by kernel_rfl) 50 ?_
      refine GD.sem 13 (m := valS (Instr.sliceAt 40 dv (some (.int .i64 (q : Int))) (some (.int .i64 (IntKind.i64.wrap ((q : Int) + 6)))) none)) (dst := some 77) (g := none) (by kernel_rfl) (by kernel_rfl) cv (.atom (.sl cv 6)) (fun N β => by have := hcut.sv N β; rwa [numV_len] at this) (says_of fun w _ => run_valS (by rw [hw6]; exact hrun w)) ?_
      refine GD.run (by kernel_rfl) 50 ?_
      refine GD.fin (by kernel_rfl) ?_
      refine G.runE tm 100 ?_
      refine G.reint (k := .i64) (a := 0) (b := (((n + 1).toNat / 2 ^ (48 - 8 * 0) : Nat) : Int)) 7 (by kernel_rfl) (by
        have : (n + 1).toNat / 2 ^ (48 - 8 * 0) = 0 := Nat.div_eq_of_lt (by have := hn.1; have := hn.2; omega)
        rw [this]; rfl) ?_
      refine G.loop (α := Nat) (fun j => ⟨[(0, .one (.atom (.ptr 0 0))), (5, .one (.atom (.ptr 1 o))), (7, .one (.atom (.int .i64 ((n + 1).toNat / 2 ^ (48 - 8 * j) : Nat)))), (10, .one (.atom (.sl vs ps.length))), (11, .one (.atom (.int .i64 ps.length))), (12, .one (.atom (.int .i64 i))),
          (77, .one (.atom (.sl cv 6))), (78, .one (.atom (.int .i64 6))), (79, .one (.atom (.int .i64 j)))],
          [(0, ⟨some b, rdB dv xs.length q⟩), (1, ⟨some tb, .obj (.cells arr' T (0, 0))⟩)], 2, []⟩)
        (fun j g' => g' = g ∧ j ≤ 6) (fun j => 6 - j) 0 [0, 5, 7, 10, 11, 12, 77, 78, 79] [0, 1] 2 [] (by kernel_rfl) (by kernel_rfl) (by kernel_rfl) ⟨rfl, Nat.zero_le _⟩ ?_
      rintro j g' ⟨rfl, hj⟩ IH2
      refine G.runE tm 100 ?_
      refine G.cond (decide ((j : Int) < 6)) (by kernel_rfl) (fun hc2 => ?_) (fun hc2 => ?_)
      · have hj6 : j < 6 := by simp at hc2; omega
        have hN : (n + 1).toNat ≤ 2 ^ 47 + 1 := by have := hn.1; have := hn.2; omega
        have hv := val_step (n + 1).toNat hj6
        have hvl : (n + 1).toNat / 2 ^ (48 - 8 * (j + 1)) ≤ 2 ^ 47 + 1 := Nat.le_trans (Nat.div_le_self _ _) hN
        have hb256 : (n + 1).toNat / 2 ^ (40 - 8 * j) % 256 < 256 := Nat.mod_lt _ (by decide)
        have hbx : (numV n)[j]? = some (.int .u8 (((n + 1).toNat / 2 ^ (40 - 8 * j) % 256 : Nat) : Int)) := by rw [← byteV_ok hn hj6]; simp [numV, hj6]
        generalize (n + 1).toNat / 2 ^ (40 - 8 * j) % 256 = bb at hv hb256 hbx
        generalize hxv : (n + 1).toNat / 2 ^ (48 - 8 * j) = xv at hv
        refine G.runE tm 100 ?_
        refine G.idx (d1 := some 81) (g := none) (T := 40) (E := 5) hcut Try.underlying40 z5 (i := j) (by rw [numV_len]; exact hj6) (by kernel_rfl) (by kernel_rfl) ?_
        refine G.el1 (d1 := some 82) (g := none) (E := 5) hcut u5 hbx (by kernel_rfl) (by kernel_rfl) fun u hu => ?_
        obtain rfl : u = .int .u8 (bb : Int) := by simpa [CellR] using hu
        refine ⟨.atom (.int .u8 (bb : Int)), fun _ _ => rfl, ?_⟩
        refine G.runE tm 100 ?_
        refine G.sem (m := valS (do eqGuard .shl 3 (.tmp 83) (.const (.int .u64 8)) (.int .i64 (xv : Int)) (.int .u64 8); binOp .shl 3 (.int .i64 (xv : Int)) (.int .u64 8))) (d := some 84) (g := none) (by kernel_rfl) (by kernel_rfl) (.int .i64 ((256 * xv : Nat) : Int)) (.atom (.int .i64 ((256 * xv : Nat) : Int))) (fun _ _ => rfl)
          (says_of fun w _ => run_valS (run_shl8 _ _ _ (by omega) w)) ?_
        refine G.runE tm 100 ?_
        refine G.reint (k := .i64) (a := IntKind.i64.wrap (bb : Int)) (b := (bb : Int)) 86 (by kernel_rfl) (IntWalk.i64_in _ (by omega)) ?_
        refine G.sem (m := valS (do eqGuard .or 3 (.tmp 84) (.tmp 86) (.int .i64 ((256 * xv : Nat) : Int)) (.int .i64 (bb : Int)); binOp .or 3 (.int .i64 ((256 * xv : Nat) : Int)) (.int .i64 (bb : Int)))) (d := some 87) (g := none) (by kernel_rfl) (by kernel_rfl) (.int .i64 ((256 * xv + bb : Nat) : Int)) (.atom (.int .i64 ((256 * xv + bb : Nat) : Int))) (fun _ _ => rfl)
          (says_of fun w _ => run_valS (run_or _ _ _ _ hb256 (by omega) w)) ?_
        refine G.runE tm 100 ?_
        refine G.reint (k := .i64) (a := IntKind.i64.wrap ((j : Int) + 1)) (b := ((j + 1 : Nat) : Int)) 79 (by kernel_rfl) (by rw [IntWalk.i64_in _ (by omega)]; rfl) ?_
        rw [hv]
        exact G.back (by kernel_rfl) [0, 5, 7, 10, 11, 12, 77, 78, 79] [0, 1] 2 [] (by kernel_rfl) (by kernel_rfl) (IH2 (j + 1) _ ⟨rfl, hj6⟩ (by omega))
      · obtain rfl : j = 6 := by simp at hc2; omega
        refine G.runE tm 100 ?_
        refine G.reint (k := .i64) (a := IntKind.i64.wrap ((((n + 1).toNat / 2 ^ (48 - 8 * 6) : Nat) : Int) - 1)) (b := n) 92 (by kernel_rfl) (by
          rw [show (n + 1).toNat / 2 ^ (48 - 8 * 6) = (n + 1).toNat by simp]
          have := hn.1; have := hn.2
          rw [IntWalk.i64_in _ (by omega)]; omega) ?_
        refine G.reint (k := .i64) (a := IntKind.i64.wrap ((q : Int) + 6)) (b := ((q + 6 : Nat) : Int)) 97 (by kernel_rfl) hw6 ?_
        refine G.storeObj (T := 3) (k := 1) (off := o) (v := .int .i64 n) (by kernel_rfl) (bi := some tb) (arr := arr') (T' := T) (by kernel_rfl) (by rw [hsz]; exact hof) rfl z3 ?_
        refine G.runE tm 100 ?_
        refine G.reint (k := .i64) (a := IntKind.i64.wrap ((i : Int) + 1)) (b := ((i + 1 : Nat) : Int)) 12 (by kernel_rfl) (wrap_succ hlt hlen) ?_
        exact G.back (by kernel_rfl) [0, 10, 11, 12] [0, 1] 2 [] (by kernel_rfl) (by kernel_rfl) (IH (i + 1, putCell arr' o (.int .i64 n), q + 6) _ ⟨rfl, hlt, by rw [putAll_snoc ho, ← harr], by rw [putCell_size (by rw [hsz]; exact hof)]; exact hsz, by simp only; omega⟩ (by simp only; omega))
  · obtain rfl : i = ps.length := by simp at hc; omega
    rw [List.take_length] at harr
    subst harr hq
    refine G.runE tm 100 ?_
    exact G.retM (rdM b tb T dv xs.length pos arr) Try.func118 Try.results118 (.tuple #[]) (by kernel_rfl) rfl (rdM b tb T dv xs.length (pos + 6 * ps.length) (putAll arr ps)) (nb := 2) (no := 0) (by kernel_rfl) (by kernel_rfl) rfl fun w' hg => ⟨rfl, hg⟩
end r
end Go.Proofs.Ytkjahaoobdbffaa
