/- The codec as a writer: numbers. -/
import Derived.Test.YtkjahaoobdbffaaK2
import Derived.Test.YtkjahaoobdbffaaB12
namespace Go.Proofs.Ytkjahaoobdbffaa
open Go Go.RowKit
attribute [local irreducible] G GD GDop

theorem el40 : ElT Try.prog 40 5 1 1 := .of Try.underlying40 (by kernel_rfl) (by decide)
theorem z171 : sizeP Try.prog 171 = some 1 := by kernel_rfl
theorem u171 : ∃ d, Try.prog.underlying 171 = some d ∧ isAggD d = false := ⟨_, Try.underlying171, rfl⟩

/-- A codec that writes. -/
def codB (v : Value) (n : Nat) : BoxB := .lit 127 [.sl v n, .int .i64 0, .bool true, .bool false]
def codM (b : Nat) (v : Value) (xs : List Value) : Mem := ⟨[(b, codB v xs.length)], [⟨5, 1, v, xs.length, xs⟩]⟩

/-- One byte of a number. -/
def byteV (n : Int) (j : Nat) : Value := .int .u8 (IntKind.u8.wrap (IntKind.i64.wrap (n + 1) / 2 ^ (40 - 8 * j)))
def numV (n : Int) : List Value := (List.range 6).map (byteV n)

/-- A pointer to a number that nobody writes. -/
def PtrR (h : GH) (cs : List Value) (x : Int) : Prop := ∃ b off arr T fr, cs = [.pointer (some ⟨b, off, none⟩)] ∧ h b = some (.cells arr T fr) ∧ arr[off]? = some (.int .i64 x)

/-- What a call leaves that wrote zs behind. -/
def Wrote (h : GH) (w : World) (b : Nat) (v : Value) (xs zs : List Value) (e : Ending) (w' : World) : Prop :=
  ∃ v', e = .returned (.tuple #[]) ∧ Mend h w (codM b v xs) h w' (codM b v' (xs ++ zs))

theorem numV_succ (n : Int) {j : Nat} (hj : j < 6) : (numV n).take (j + 1) = (numV n).take j ++ [byteV n j] := by
  rw [List.take_add_one]
  simp [numV, hj]

theorem numV_len (n : Int) : (numV n).length = 6 := by simp [numV]

theorem PtrR.load {h : GH} {u : Value} {x : Int} (hp : PtrR h [u] x) {w : World} (hs : Sub h w) : (Instr.loadAt 3 u).run Try.prog w = .ok (.int .i64 x) w := by
  obtain ⟨b, off, arr, T, fr, h1, h2, h3⟩ := hp
  simp only [List.cons.injEq, and_true] at h1
  subst h1
  have : w.cell? ⟨b, off, none⟩ = some (.int .i64 x) := by rw [cell_of_heap (hs _ _ h2)]; exact h3
  simp [Instr.loadAt, Instr.sureAddr, loadVar, run_isAggP Try.underlying3, isAggD, this]

theorem run_shr {T : TypeId} (x y : Operand) (a b : Int) {m : Nat} (hb : b = m) (hm : m ≤ 40) (w : World) :
    (do eqGuard .shr T x y (.int .i64 a) (.int .i64 b); binOp .shr T (.int .i64 a) (.int .i64 b)).run Try.prog w = .ok (.int .i64 (a / 2 ^ m)) w := by
  have h0 : b.toNat = m := by omega
  simp [run_eqGuard_int, binOp, h0]

section num
variable {h : GH} {w : World}

theorem flat_len (l : List Int) : (l.flatMap numV).length = 6 * l.length := by
  induction l with
  | nil => rfl
  | cons a l ih => simp [ih, numV_len]; omega

theorem flat_succ {l : List Int} {i : Nat} {n : Int} (h : l[i]? = some n) : (l.take (i + 1)).flatMap numV = (l.take i).flatMap numV ++ numV n := by
  rw [List.take_add_one, h]; simp

theorem f118_ok {b : Nat} {v vs : Value} {xs : List Value} {l : List Int} (hl : SlR h 1 (PtrR h) vs l) (hm : MemOk h w (codM b v xs)) (hs : Sub h w) (hn : xs.length + 6 * l.length ≤ 140737488351232) :
    Calls Try.prog 118 #[.pointer (some ⟨b, 0, none⟩), vs] w (Wrote h w b v xs (l.flatMap numV)) := by
  refine Calls.enterM (codM b v xs) [.atom (.ptr 0 0), .atom (.sl vs l.length)] Try.func118 (c := bodyOf Try.f118) (by kernel_rfl) Try.ntmps118 (by kernel_rfl) hm ⟨⟨rfl, Nat.zero_lt_one⟩, hl.sv _ _, trivial⟩ (by simp) hs ?_
  refine G.runE tm 100 ?_
  refine G.loop (α := Nat × Value × List Value × Nat)
    (fun x => ⟨[(0, .one (.atom (.ptr 0 0))), (10, .one (.atom (.sl vs l.length))), (11, .one (.atom (.int .i64 l.length))), (12, .one (.atom (.int .i64 x.1)))],
      [(0, ⟨some b, codB x.2.1 x.2.2.2⟩)], 1, [(0, ⟨5, 1, x.2.1, x.2.2.2, x.2.2.1⟩)]⟩)
    (fun x g => g = h ∧ x.1 ≤ l.length ∧ x.2.2.1 = xs ++ (l.take x.1).flatMap numV ∧ x.2.2.2 = x.2.2.1.length) (fun x => l.length - x.1) (0, v, xs, xs.length) [0, 10, 11, 12] [0] 1 [0] (by kernel_rfl) (by kernel_rfl) (by kernel_rfl) ⟨rfl, Nat.zero_le _, by simp, rfl⟩ ?_
  rintro ⟨i, u, ys, m⟩ g ⟨rfl, hi, hys, hml⟩ IH
  simp only at hi hys hml
  have hyl : m = xs.length + 6 * i := by rw [hml, hys, List.length_append, flat_len, List.length_take]; omega
  refine G.runE tm 100 ?_
  refine G.cond (decide ((i : Int) < (l.length : Int))) (by kernel_rfl) (fun hc => ?_) (fun hc => ?_)
  · have hlt : i < l.length := by simpa using hc
    obtain ⟨n, hnx⟩ := get_of_lt hlt
    refine G.runE tm 100 ?_
    refine G.idx (d1 := some 14) (g := none) (T := 185) (E := 171) hl Try.underlying185 z171 hlt (by kernel_rfl) (by kernel_rfl) ?_
    refine G.el1 (d1 := some 15) (g := none) (E := 171) hl u171 hnx (by kernel_rfl) (by kernel_rfl) fun p hp => ?_
    obtain ⟨pb, po, hpe⟩ : ∃ pb po, p = .pointer (some ⟨pb, po, none⟩) := by
      obtain ⟨pb, po, arr, T, fr, h1, -⟩ := hp
      simp only [List.cons.injEq, and_true] at h1
      exact ⟨pb, po, h1⟩
    subst hpe
    refine ⟨.atom (.raw (.pointer (some ⟨pb, po, none⟩))), fun _ _ => ⟨rfl, rfl⟩, ?_⟩
    refine G.runE tm 100 ?_
    refine G.condT (b := true) (by kernel_rfl) rfl ?_
    refine G.runE tm 100 ?_
    refine G.loop (α := Nat × Value × List Value × Nat)
      (fun x => ⟨[(0, .one (.atom (.ptr 0 0))), (5, .one (.atom (.raw (.pointer (some ⟨pb, po, none⟩))))), (6, .one (.atom (.int .i64 (40 - 8 * (x.1 : Int))))), (10, .one (.atom (.sl vs l.length))), (11, .one (.atom (.int .i64 l.length))), (12, .one (.atom (.int .i64 i)))],
        [(0, ⟨some b, codB x.2.1 x.2.2.2⟩)], 1, [(0, ⟨5, 1, x.2.1, x.2.2.2, x.2.2.1⟩)]⟩)
      (fun x g' => g' = g ∧ x.1 ≤ 6 ∧ x.2.2.1 = ys ++ (numV n).take x.1 ∧ x.2.2.2 = m + x.1) (fun x => 6 - x.1) (0, u, ys, m) [0, 5, 6, 10, 11, 12] [0] 1 [0] (by kernel_rfl) (by kernel_rfl) (by kernel_rfl) ⟨rfl, Nat.zero_le _, by simp, rfl⟩ ?_
    rintro ⟨j, u', zs, m'⟩ g' ⟨rfl, hj, hzs, hm'⟩ IH2
    simp only at hj hzs hm'
    refine G.runE tm 100 ?_
    refine G.cond (decide ((40 - 8 * (j : Int)) ≥ 0)) (by kernel_rfl) (fun hc2 => ?_) (fun hc2 => ?_)
    · have hj6 : j < 6 := by simp at hc2; omega
      refine G.runE tm 100 ?_
      refine G.draw [] tm (by kernel_rfl) (by kernel_rfl) ?_
      refine GD.run (by kernel_rfl) 50 ?_
      refine GD.sem 7 (m := valS (Instr.loadAt 3 (.pointer (some ⟨pb, po, none⟩)))) (dst := some 31) (g := none) (by kernel_rfl) (by kernel_rfl) (.int .i64 n) (.atom (.int .i64 n)) (fun _ _ => rfl) (says_of fun w hw => run_valS (hp.load hw)) ?_
      refine GD.run (by kernel_rfl) 50 ?_
      refine GD.sem 10 (m := valS (do eqGuard .shr 3 (.tmp 32) (.tmp 33) (.int .i64 (IntKind.i64.wrap (n + 1))) (.int .i64 (40 - 8 * (j : Int))); binOp .shr 3 (.int .i64 (IntKind.i64.wrap (n + 1))) (.int .i64 (40 - 8 * (j : Int))))) (dst := some 34) (g := none) (by kernel_rfl) (by kernel_rfl)
        (.int .i64 (IntKind.i64.wrap (n + 1) / 2 ^ (40 - 8 * j))) (.atom (.int .i64 (IntKind.i64.wrap (n + 1) / 2 ^ (40 - 8 * j)))) (fun _ _ => rfl)
        (says_of fun w _ => run_valS (run_shr _ _ _ _ (m := 40 - 8 * j) (by omega) (by omega) w)) ?_
      refine GD.run (by kernel_rfl) 50 ?_
      refine GD.two 4 12 (by kernel_rfl) (GDop.eff (by kernel_rfl) ?_) (GDop.eff (by kernel_rfl) ?_)
      all_goals
        refine GD.run (by kernel_rfl) 50 ?_
        refine GD.one 13 (by kernel_rfl) (GDop.appLit (T := 40) (v := u') (m := m') (xs := zs) (kx := 1) (q := 1) (q' := 1) (d := some 37) el40 0 (by kernel_rfl) (by kernel_rfl) (by kernel_rfl) (bi := none) (e' := 5)
          (cs := [.int .u8 (IntKind.u8.wrap (IntKind.i64.wrap (n + 1) / 2 ^ (40 - 8 * j)))]) (by kernel_rfl) (news := [byteV n j]) (by kernel_rfl) rfl (by omega) (by omega) fun u'' _ => ?_)
        refine GD.run (by kernel_rfl) 50 ?_
        refine GD.fin (by kernel_rfl) ?_
        refine G.runE tm 100 ?_
        refine G.reint (k := .i64) (a := IntKind.i64.wrap (40 - 8 * (j : Int) - 8)) (b := 40 - 8 * ((j + 1 : Nat) : Int)) 6 (by kernel_rfl) ?_ ?_
        · rw [IntWalk.i64_in _ (by omega)]; omega
        refine G.back (by kernel_rfl) [0, 5, 6, 10, 11, 12] [0] 1 [0] (by kernel_rfl) (by kernel_rfl) (IH2 (j + 1, u'', zs ++ [byteV n j], m' + 1) _ ⟨rfl, hj6, ?_, by simp only; omega⟩ (by simp only; omega))
        rw [numV_succ n hj6, hzs, List.append_assoc]
    · obtain rfl : j = 6 := by simp at hc2; omega
      refine G.runE tm 100 ?_
      refine G.reint (k := .i64) 12 (by kernel_rfl) (wrap_succ hlt hl.len) ?_
      refine G.back (by kernel_rfl) [0, 10, 11, 12] [0] 1 [0] (by kernel_rfl) (by kernel_rfl) (IH (i + 1, u', zs, m') _ ⟨rfl, hlt, ?_, ?_⟩ (by simp only; omega))
      · rw [List.take_of_length_le (by rw [numV_len]; omega : (numV n).length ≤ 6)] at hzs; simp only; rw [flat_succ hnx, hzs, hys, List.append_assoc]
      · simp only; rw [hzs, List.length_append, List.length_take, numV_len, ← hml]; omega
  · obtain rfl : i = l.length := by simp at hc; omega
    refine G.runE tm 100 ?_
    rw [List.take_length] at hys
    subst hys
    subst hml
    exact G.retM (codM b v xs) Try.func118 Try.results118 (.tuple #[]) (by kernel_rfl) rfl (codM b u (xs ++ l.flatMap numV)) (nb := 1) (no := 1) (by kernel_rfl) (by kernel_rfl) rfl fun w' hg => ⟨u, rfl, hg⟩
end num
end Go.Proofs.Ytkjahaoobdbffaa
