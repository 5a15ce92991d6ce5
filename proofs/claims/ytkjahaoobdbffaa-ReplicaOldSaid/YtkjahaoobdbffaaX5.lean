/- Merged: K3 K4 B21 B22 K5 K6 K7 -/
import Derived.Laws.StructEq
import Derived.Test.YtkjahaoobdbffaaX4

/- What the functions that hold rules, entries and lists of entries against one another answer. -/
namespace Go.Proofs.Ytkjahaoobdbffaa
open Go Go.RowKit

attribute [local irreducible] G GD GDop

theorem bytes_beq (x y : ByteArray) : (x.toList == y.toList) = decide (x = y) := by
  rw [ByteArray.toList_eq, ByteArray.toList_eq]
  obtain ⟨⟨x⟩⟩ := x
  obtain ⟨⟨y⟩⟩ := y
  rw [Bool.eq_iff_iff]
  simp

theorem rulEq_run {T U : TypeId} (hT : Try.prog.underlying T = Try.prog.underlying U) (hp : Try.prog.stoodInHeld T = false) (hU : U = 114) (d : Nat) (a b : Rul) (w : World) :
    (Op.equalIn (d + 2) T (rulV a) (rulV b)).run Try.prog w = .ok (decide (a = b)) w := by
  subst hU
  have hu : Try.prog.underlying T = some (.struct (Try.prog.fieldsOf T)) := by
    unfold Program.fieldsOf; rw [hT, Try.underlying114]
  have hf : (Try.prog.fieldsOf T).toList = [{ name := "ID", type := 3, offset := 0, embedded := false, tag := "", pkgPath := "", byteOffset := 0 }, { name := "Priority", type := 3, offset := 1, embedded := false, tag := "", pkgPath := "", byteOffset := 8 },
      { name := "Action", type := 3, offset := 2, embedded := false, tag := "", pkgPath := "", byteOffset := 16 }, { name := "Scope", type := 3, offset := 3, embedded := false, tag := "", pkgPath := "", byteOffset := 24 },
      { name := "Pattern", type := 9, offset := 4, embedded := false, tag := "", pkgPath := "", byteOffset := 32 }] := by
    unfold Program.fieldsOf; rw [hT, Try.underlying114]
  have h3 : Try.prog.underlying 3 = some (.int .i64) := Try.underlying3
  have h9 : Try.prog.underlying 9 = some .string := Try.underlying9
  unfold rulV
  rw [run_equalIn_struct w (d + 1) T _ _ hu hp, hf]
  have i3 : (isAgg 3).run Try.prog w = .ok false w := run_isAggP h3 w
  have i9 : (isAgg 9).run Try.prog w = .ok false w := run_isAggP h9 w
  have e3 : ∀ x y : Int, (Op.equalIn (d + 1) 3 (.int .i64 x) (.int .i64 y)).run Try.prog w = .ok (x == y) w := fun x y => run_equalIn_int w d 3 _ _ x y h3
  have e9 : ∀ x y : ByteArray, (Op.equalIn (d + 1) 9 (.string x) (.string y)).run Try.prog w = .ok (decide (x = y)) w := fun x y => by rw [run_equalIn_string w d 9 x y h9, bytes_beq]
  obtain ⟨a1, a2, a3, a4, a5⟩ := a
  obtain ⟨b1, b2, b3, b4, b5⟩ := b
  have q3 : ∀ (xs : Array Value) (i : Nat), (part 3 xs i).run Try.prog w = (match xs[i]? with | some v => (pure v : Sem Value) | none => stuck "part: no such cell").run Try.prog w := by
    intro xs i; simp only [part, Sem.run_bind, i3, Result.andThen_ok, Bool.false_eq_true, if_false]; cases xs[i]? <;> rfl
  have q9 : ∀ (xs : Array Value) (i : Nat), (part 9 xs i).run Try.prog w = (match xs[i]? with | some v => (pure v : Sem Value) | none => stuck "part: no such cell").run Try.prog w := by
    intro xs i; simp only [part, Sem.run_bind, i9, Result.andThen_ok, Bool.false_eq_true, if_false]; cases xs[i]? <;> rfl
  simp [Op.eqFields, q3, q9, e3, e9]
  by_cases c1 : a1 = b1
  · by_cases c2 : a2 = b2
    · by_cases c3 : a3 = b3
      · by_cases c4 : a4 = b4
        · by_cases c5 : a5 = b5
          · simp [c1, c2, c3, c4, c5]
          · simp [c1, c2, c3, c4, c5]
        · simp [c1, c2, c3, c4]
      · simp [c1, c2, c3]
    · simp [c1, c2]
  · simp [c1]

/-- 'a != b' of rules. -/
theorem rulNeq_run {T : TypeId} (hT : Try.prog.underlying T = Try.prog.underlying 114) (hp : Try.prog.stoodInHeld T = false) (hg : Try.prog.eqGuardType Try.prog.depth T = false) (x y : Operand) (a b : Rul) (w : World) :
    (valS (do eqGuard .neq T x y (rulV a) (rulV b); binOp .neq T (rulV a) (rulV b))).run Try.prog w = .ok (.value (.bool (!decide (a = b)))) w := by
  refine run_valS ?_
  have h1 : (eqGuard .neq T x y (rulV a) (rulV b)).run Try.prog w = .ok () w := run_eqGuard_agg w .neq T x y _ _ hg
  have h2 := run_neq_struct (P := Try.prog) w T #[.int .i64 a.id, .int .i64 a.pri, .int .i64 a.act, .int .i64 a.sco, .string a.pat] #[.int .i64 b.id, .int .i64 b.pri, .int .i64 b.act, .int .i64 b.sco, .string b.pat]
  have h3 := rulEq_run hT hp rfl 9998 a b w
  simp only [Sem.run_bind, h1, Result.andThen_ok]
  exact h2.trans (by rw [show (Op.equalIn 10000 T (.agg #[.int .i64 a.id, .int .i64 a.pri, .int .i64 a.act, .int .i64 a.sco, .string a.pat]) (.agg #[.int .i64 b.id, .int .i64 b.pri, .int .i64 b.act, .int .i64 b.sco, .string b.pat])).run Try.prog w = .ok (decide (a = b)) w from h3]; rfl)

theorem g114 : Try.prog.eqGuardType Try.prog.depth 114 = false := by kernel_rfl
theorem g124 : Try.prog.eqGuardType Try.prog.depth 124 = false := by kernel_rfl
theorem s114 : Try.prog.stoodInHeld 114 = false := by kernel_rfl
theorem s124 : Try.prog.stoodInHeld 124 = false := by kernel_rfl
theorem t124 : Try.prog.underlying 124 = Try.prog.underlying 114 := by rw [Try.underlying124, Try.underlying114]

/-- Two lists are the same as far as looked at. -/
theorem eq_of_take {α : Type} {a b : List α} (hl : a.length = b.length) (h : a.take a.length = b.take a.length) : a = b := by
  rw [List.take_length] at h; rw [hl, List.take_length] at h; exact h

theorem take_eq_succ {α : Type} {a b : List α} {i : Nat} {x : α} (hx : a[i]? = some x) (hy : b[i]? = some x) (h : a.take i = b.take i) : a.take (i + 1) = b.take (i + 1) := by
  rw [List.take_add_one, List.take_add_one, hx, hy, h]

theorem ne_of_get {α : Type} {a b : List α} {i : Nat} {x y : α} (hx : a[i]? = some x) (hy : b[i]? = some y) (hne : x ≠ y) : a ≠ b := by
  rintro rfl; rw [hx] at hy; exact hne (by injection hy)

section eq
variable {h : GH} {w : World}

theorem f114_ok {va vb : Value} {a b : List Rul} (ha : SlR h 5 RulR va a) (hb : SlR h 5 RulR vb b) (hs : Sub h w) :
    Calls Try.prog 114 #[va, vb] w fun e w' => e = .returned (.bool (decide (a = b))) ∧ Below w.heap.size w w' := by
  have hlen := ha.len
  refine Calls.enter [.atom (.sl va a.length), .atom (.sl vb b.length)] Try.func114 (c := bodyOf Try.f114) (by kernel_rfl) Try.ntmps114 ⟨ha.sv _ _, hb.sv _ _, trivial⟩ (by simp) hs ?_
  refine G.runE tm 100 ?_
  refine G.cond ((a.length : Int) != (b.length : Int)) (by kernel_rfl) (fun hc => ?_) (fun hc => ?_)
  · refine G.runE tm 100 ?_
    refine G.ret Try.func114 Try.results114 (.bool false) (by kernel_rfl) fun w' hf _ => ⟨?_, hf.below⟩
    have : a ≠ b := by rintro rfl; simp at hc
    simp [this]
  have hll : a.length = b.length := by simp at hc; omega
  refine G.runE tm 100 ?_
  refine G.loop (α := Nat) (fun i => ⟨[(0, .one (.atom (.sl va a.length))), (1, .one (.atom (.sl vb b.length))), (12, .one (.atom (.int .i64 a.length))), (13, .one (.atom (.int .i64 i)))], [], 0, []⟩)
    (fun i g => g = h ∧ i ≤ a.length ∧ a.take i = b.take i) (fun i => a.length - i) 0 [0, 1, 12, 13] [] 0 [] (by kernel_rfl) (by kernel_rfl) (by kernel_rfl) ⟨rfl, Nat.zero_le _, by simp⟩ ?_
  rintro i g ⟨rfl, hi, hall⟩ IH
  refine G.runE tm 100 ?_
  refine G.cond (decide ((i : Int) < (a.length : Int))) (by kernel_rfl) (fun hc => ?_) (fun hc => ?_)
  · have hlt : i < a.length := by simpa using hc
    obtain ⟨x, hx⟩ := get_of_lt hlt
    obtain ⟨y, hy⟩ := get_of_lt (hll ▸ hlt : i < b.length)
    refine G.runE tm 100 ?_
    refine G.draw [] tm (by kernel_rfl) (by kernel_rfl) ?_
    refine GD.run (by kernel_rfl) 50 ?_
    refine GD.idx 2 (d1 := some 18) (g := none) (T := 29) (E := 114) ha Try.underlying29 z114 hlt (by kernel_rfl) (by kernel_rfl) ?_
    refine GD.elRul 3 (d1 := some 19) (g := none) (E := 114) ha z114 u114 hx (by kernel_rfl) (by kernel_rfl) ?_
    refine GD.idx 6 (d1 := some 22) (g := none) (T := 29) (E := 114) hb Try.underlying29 z114 (hll ▸ hlt) (by kernel_rfl) (by kernel_rfl) ?_
    refine GD.elRul 7 (d1 := some 23) (g := none) (E := 114) hb z114 u114 hy (by kernel_rfl) (by kernel_rfl) ?_
    refine GD.sem 8 (m := valS (do eqGuard .neq 114 (.tmp 19) (.tmp 23) (rulV x) (rulV y); binOp .neq 114 (rulV x) (rulV y))) (dst := some 24) (g := none) (by kernel_rfl) (by kernel_rfl) (.bool (!decide (x = y))) (.atom (.bool (!decide (x = y)))) (fun _ _ => rfl)
      (says_of fun w _ => rulNeq_run rfl s114 g114 _ _ x y w) ?_
    refine GD.fin (by kernel_rfl) ?_
    refine G.runE tm 100 ?_
    refine G.cond (!decide (x = y)) (by kernel_rfl) (fun hc => ?_) (fun hc => ?_)
    · refine G.runE tm 100 ?_
      refine G.ret Try.func114 Try.results114 (.bool false) (by kernel_rfl) fun w' hf _ => ⟨?_, hf.below⟩
      have : a ≠ b := ne_of_get hx hy (by simpa using hc)
      simp [this]
    · obtain rfl : x = y := by simpa using hc
      refine G.runE tm 100 ?_
      refine G.reint (k := .i64) 13 (by kernel_rfl) (wrap_succ hlt hlen) ?_
      exact G.back (by kernel_rfl) [0, 1, 12, 13] [] 0 [] (by kernel_rfl) (by kernel_rfl) (IH (i + 1) _ ⟨rfl, hlt, take_eq_succ hx hy hall⟩ (by omega))
  · obtain rfl : i = a.length := by simp at hc; omega
    have : a = b := eq_of_take hll hall
    refine G.runE tm 100 ?_
    exact G.ret Try.func114 Try.results114 (.bool true) (by kernel_rfl) fun w' hf _ => ⟨by simp [this], hf.below⟩

theorem f115_ok {va vb : Value} {a b : List Int} (ha : SlR h 1 IntR va a) (hb : SlR h 1 IntR vb b) (hs : Sub h w) :
    Calls Try.prog 115 #[va, vb] w fun e w' => e = .returned (.bool (decide (a = b))) ∧ Below w.heap.size w w' := by
  have hlen := ha.len
  refine Calls.enter [.atom (.sl va a.length), .atom (.sl vb b.length)] Try.func115 (c := bodyOf Try.f115) (by kernel_rfl) Try.ntmps115 ⟨ha.sv _ _, hb.sv _ _, trivial⟩ (by simp) hs ?_
  refine G.runE tm 100 ?_
  refine G.cond ((a.length : Int) != (b.length : Int)) (by kernel_rfl) (fun hc => ?_) (fun hc => ?_)
  · refine G.runE tm 100 ?_
    refine G.ret Try.func115 Try.results115 (.bool false) (by kernel_rfl) fun w' hf _ => ⟨?_, hf.below⟩
    have : a ≠ b := by rintro rfl; simp at hc
    simp [this]
  have hll : a.length = b.length := by simp at hc; omega
  refine G.runE tm 100 ?_
  refine G.loop (α := Nat) (fun i => ⟨[(0, .one (.atom (.sl va a.length))), (1, .one (.atom (.sl vb b.length))), (12, .one (.atom (.int .i64 a.length))), (13, .one (.atom (.int .i64 i)))], [], 0, []⟩)
    (fun i g => g = h ∧ i ≤ a.length ∧ a.take i = b.take i) (fun i => a.length - i) 0 [0, 1, 12, 13] [] 0 [] (by kernel_rfl) (by kernel_rfl) (by kernel_rfl) ⟨rfl, Nat.zero_le _, by simp⟩ ?_
  rintro i g ⟨rfl, hi, hall⟩ IH
  refine G.runE tm 100 ?_
  refine G.cond (decide ((i : Int) < (a.length : Int))) (by kernel_rfl) (fun hc => ?_) (fun hc => ?_)
  · have hlt : i < a.length := by simpa using hc
    obtain ⟨x, hx⟩ := get_of_lt hlt
    obtain ⟨y, hy⟩ := get_of_lt (hll ▸ hlt : i < b.length)
    refine G.runE tm 100 ?_
    refine G.draw [] tm (by kernel_rfl) (by kernel_rfl) ?_
    refine GD.run (by kernel_rfl) 50 ?_
    refine GD.idx 2 (d1 := some 18) (g := none) (T := 30) (E := 3) ha Try.underlying30 z3 hlt (by kernel_rfl) (by kernel_rfl) ?_
    refine GD.elInt 3 (d1 := some 19) (g := none) (E := 3) ha u3 hx (by kernel_rfl) (by kernel_rfl) ?_
    refine GD.idx 6 (d1 := some 22) (g := none) (T := 30) (E := 3) hb Try.underlying30 z3 (hll ▸ hlt) (by kernel_rfl) (by kernel_rfl) ?_
    refine GD.elInt 7 (d1 := some 23) (g := none) (E := 3) hb u3 hy (by kernel_rfl) (by kernel_rfl) ?_
    refine GD.run (by kernel_rfl) 50 ?_
    refine GD.fin (by kernel_rfl) ?_
    refine G.runE tm 100 ?_
    refine G.cond (x != y) (by kernel_rfl) (fun hc => ?_) (fun hc => ?_)
    · refine G.runE tm 100 ?_
      refine G.ret Try.func115 Try.results115 (.bool false) (by kernel_rfl) fun w' hf _ => ⟨?_, hf.below⟩
      have : a ≠ b := ne_of_get hx hy (by simpa using hc)
      simp [this]
    · obtain rfl : x = y := by simpa using hc
      refine G.runE tm 100 ?_
      refine G.reint (k := .i64) 13 (by kernel_rfl) (wrap_succ hlt hlen) ?_
      exact G.back (by kernel_rfl) [0, 1, 12, 13] [] 0 [] (by kernel_rfl) (by kernel_rfl) (IH (i + 1) _ ⟨rfl, hlt, take_eq_succ hx hy hall⟩ (by omega))
  · obtain rfl : i = a.length := by simp at hc; omega
    have : a = b := eq_of_take hll hall
    refine G.runE tm 100 ?_
    exact G.ret Try.func115 Try.results115 (.bool true) (by kernel_rfl) fun w' hf _ => ⟨by simp [this], hf.below⟩

theorem ent_eq (a b : Ent) : decide (a = b) = (a.view == b.view && a.client == b.client && a.request == b.request && a.dflt == b.dflt && a.closed == b.closed && a.fuel == b.fuel && a.stack == b.stack && decide (a.put = b.put) && decide (a.drop = b.drop)) := by
  obtain ⟨a1, a2, a3, a4, a5, a6, a7, a8, a9⟩ := a
  obtain ⟨b1, b2, b3, b4, b5, b6, b7, b8, b9⟩ := b
  rw [Bool.eq_iff_iff]
  simp [and_assoc]

theorem f60_ok {pa da pb db : Value} {a b : Ent} (h1 : SlR h 5 RulR pa a.put) (h2 : SlR h 1 IntR da a.drop) (h3 : SlR h 5 RulR pb b.put) (h4 : SlR h 1 IntR db b.drop) (hs : Sub h w) :
    Calls Try.prog 60 #[entV a pa da, entV b pb db] w fun e w' => e = .returned (.bool (decide (a = b))) ∧ Below w.heap.size w w' := by
  refine Calls.enter [.agg (entC a pa da), .agg (entC b pb db)] Try.func60 (c := bodyOf Try.f60) (by kernel_rfl) Try.ntmps60 ⟨entC_ok h1 h2 _ _, entC_ok h3 h4 _ _, trivial⟩ (by simp) hs ?_
  refine G.runE tm 100 ?_
  refine G.draw [0, 1] tm (by kernel_rfl) (by kernel_rfl) ?_
  refine GD.run (by kernel_rfl) 50 ?_
  refine GD.two 4 5 (by kernel_rfl) (GDop.eff (by kernel_rfl) ?_) (GDop.eff (by kernel_rfl) ?_)
  all_goals
    refine GD.run (by kernel_rfl) 50 ?_
    refine GD.fin (by kernel_rfl) ?_
    refine G.runE tm 100 ?_
    refine G.callGV (f := 114) (svs := [.atom (.sl pa a.put.length), .atom (.sl pb b.put.length)]) (d := 63) (tg := 58) (want := true) (by kernel_rfl) [pa, pb] (.bool (decide (a.put = b.put))) (by kernel_rfl) (by kernel_rfl) (by kernel_rfl)
      (says_of fun w hs => f114_ok h1 h3 hs) ?_
    refine G.runE tm 100 ?_
    refine G.callGV (f := 115) (svs := [.atom (.sl da a.drop.length), .atom (.sl db b.drop.length)]) (d := 70) (tg := 65) (want := true) (by kernel_rfl) [da, db] (.bool (decide (a.drop = b.drop))) (by kernel_rfl) (by kernel_rfl) (by kernel_rfl)
      (says_of fun w hs => f115_ok h2 h4 hs) ?_
    refine G.runE tm 100 ?_
    exact G.ret Try.func60 Try.results60 (.bool (a.view == b.view && a.client == b.client && a.request == b.request && a.dflt == b.dflt && a.closed == b.closed && a.fuel == b.fuel && a.stack == b.stack && decide (a.put = b.put) && decide (a.drop = b.drop))) (by kernel_rfl)
      fun w' hf _ => ⟨by rw [ent_eq], hf.below⟩

theorem f59_ok {va vb : Value} {a b : List Ent} (ha : EntsR h va a) (hb : EntsR h vb b) (hs : Sub h w) :
    Calls Try.prog 59 #[va, vb, fnV 60] w fun e w' => e = .returned (.bool (decide (a = b))) ∧ Below w.heap.size w w' := by
  have hlen := SlR.len ha
  refine Calls.enter [.atom (.sl va a.length), .atom (.sl vb b.length), .atom (.raw (fnV 60))] Try.func59 (c := bodyOf Try.f59) (by kernel_rfl) Try.ntmps59 ⟨SlR.sv ha _ _, SlR.sv hb _ _, ⟨rfl, rfl⟩, trivial⟩ (by simp) hs ?_
  refine G.runE tm 100 ?_
  refine G.cond ((a.length : Int) != (b.length : Int)) (by kernel_rfl) (fun hc => ?_) (fun hc => ?_)
  · refine G.runE tm 100 ?_
    refine G.ret Try.func59 Try.results59 (.bool false) (by kernel_rfl) fun w' hf _ => ⟨?_, hf.below⟩
    have : a ≠ b := by rintro rfl; simp at hc
    simp [this]
  have hll : a.length = b.length := by simp at hc; omega
  refine G.runE tm 100 ?_
  refine G.loop (α := Nat) (fun i => ⟨[(1, .one (.atom (.sl vb b.length))), (2, .one (.atom (.raw (fnV 60)))), (15, .one (.atom (.sl va a.length))), (16, .one (.atom (.int .i64 a.length))), (17, .one (.atom (.int .i64 i)))], [], 0, []⟩)
    (fun i g => g = h ∧ i ≤ a.length ∧ a.take i = b.take i) (fun i => a.length - i) 0 [1, 2, 15, 16, 17] [] 0 [] (by kernel_rfl) (by kernel_rfl) (by kernel_rfl) ⟨rfl, Nat.zero_le _, by simp⟩ ?_
  rintro i g ⟨rfl, hi, hall⟩ IH
  refine G.runE tm 100 ?_
  refine G.cond (decide ((i : Int) < (a.length : Int))) (by kernel_rfl) (fun hc => ?_) (fun hc => ?_)
  · have hlt : i < a.length := by simpa using hc
    obtain ⟨x, hx⟩ := get_of_lt hlt
    obtain ⟨y, hy⟩ := get_of_lt (hll ▸ hlt : i < b.length)
    refine G.runE tm 100 ?_
    refine G.idx (d1 := some 20) (g := none) (T := 22) (E := 34) ha Try.underlying22 z34 hlt (by kernel_rfl) (by kernel_rfl) ?_
    refine G.elEnt (d1 := some 21) (g := none) (E := 34) ha z34 u34 hx (by kernel_rfl) (by kernel_rfl) fun pa da hpa hda => ?_
    refine G.runE tm 100 ?_
    refine G.idx (d1 := some 24) (g := none) (T := 22) (E := 34) hb Try.underlying22 z34 (hll ▸ hlt) (by kernel_rfl) (by kernel_rfl) ?_
    refine G.elEnt (d1 := some 25) (g := none) (E := 34) hb z34 u34 hy (by kernel_rfl) (by kernel_rfl) fun pb db hpb hdb => ?_
    refine G.runE tm 100 ?_
    refine G.callV (f := 60) (svs := [.agg (entC x pa da), .agg (entC y pb db)]) (d := some 29) (by kernel_rfl) [entV x pa da, entV y pb db] (.bool (decide (x = y))) (by kernel_rfl) (by kernel_rfl) (by kernel_rfl) (fun w hs => f60_ok hpa hda hpb hdb hs) ?_
    refine G.runE tm 100 ?_
    refine G.cond (!decide (x = y)) (by kernel_rfl) (fun hc => ?_) (fun hc => ?_)
    · refine G.runE tm 100 ?_
      refine G.ret Try.func59 Try.results59 (.bool false) (by kernel_rfl) fun w' hf _ => ⟨?_, hf.below⟩
      have : a ≠ b := ne_of_get hx hy (by simpa using hc)
      simp [this]
    · obtain rfl : x = y := by simpa using hc
      refine G.runE tm 100 ?_
      refine G.reint (k := .i64) 17 (by kernel_rfl) (wrap_succ hlt hlen) ?_
      exact G.back (by kernel_rfl) [1, 2, 15, 16, 17] [] 0 [] (by kernel_rfl) (by kernel_rfl) (IH (i + 1) _ ⟨rfl, hlt, take_eq_succ hx hy hall⟩ (by omega))
  · obtain rfl : i = a.length := by simp at hc; omega
    have : a = b := eq_of_take hll hall
    refine G.runE tm 100 ?_
    exact G.ret Try.func59 Try.results59 (.bool true) (by kernel_rfl) fun w' hf _ => ⟨by simp [this], hf.below⟩

/-- pack.Same. -/
theorem f15_ok {va vb : Value} {a b : List Ent} (ha : EntsR h va a) (hb : EntsR h vb b) (hs : Sub h w) :
    Calls Try.prog 15 #[va, vb] w fun e w' => e = .returned (.bool (decide (a = b))) ∧ Below w.heap.size w w' := by
  refine Calls.enter [.atom (.sl va a.length), .atom (.sl vb b.length)] Try.func15 (c := bodyOf Try.f15) (by kernel_rfl) Try.ntmps15 ⟨SlR.sv ha _ _, SlR.sv hb _ _, trivial⟩ (by simp) hs ?_
  refine G.runE tm 100 ?_
  refine G.callV (f := 59) (svs := [.atom (.sl va a.length), .atom (.sl vb b.length), .atom (.raw (fnV 60))]) (d := some 7) (by kernel_rfl) [va, vb, fnV 60] (.bool (decide (a = b))) (by kernel_rfl) (by kernel_rfl) (by kernel_rfl) (fun w hs => f59_ok ha hb hs) ?_
  refine G.runE tm 100 ?_
  exact G.ret Try.func15 Try.results15 (.bool (decide (a = b))) (by kernel_rfl) fun w' hf _ => ⟨rfl, hf.below⟩
end eq
end Go.Proofs.Ytkjahaoobdbffaa

/- The document's form of the program's entries: the copies that the statements make. -/
namespace Go.Proofs.Ytkjahaoobdbffaa
open Go Go.RowKit
attribute [local irreducible] G GD GDop

theorem el35 : ElT Try.prog 35 124 5 48 := .of Try.underlying35 (by kernel_rfl) (by decide)
theorem el27 : ElT Try.prog 27 39 9 104 := .of Try.underlying27 (by kernel_rfl) (by decide)

def delC (e : Ent) (p d : Value) : List Cell := [.int .i64 e.dflt, .int .i64 e.closed, .int .i64 e.fuel, .int .i64 e.stack, .sl p e.put.length, .sl d e.drop.length]
def delV (e : Ent) (p d : Value) : Value := .agg #[.int .i64 e.dflt, .int .i64 e.closed, .int .i64 e.fuel, .int .i64 e.stack, p, d]
theorem delC_ok {h : GH} {e : Ent} {p d : Value} (hp : SlR h 5 RulR p e.put) (hd : SlR h 1 IntR d e.drop) (N : Nat) (β : Nat → Nat) : SV1Ok N β (.agg (delC e p d)) (delV e p d) :=
  ⟨_, rfl, rfl, rfl, rfl, rfl, hp.cell N β, hd.cell N β, trivial⟩

/-- What is not written any more reads as a list. -/
theorem SlR.of_freeze {α : Type} {h : GH} {v : Value} {m sz : Nat} {e : TypeId} {xs : List Value} {l : List α} {R : List Value → α → Prop}
    (hf : v = .slice none 0 0 ∧ m = 0 ∨ ∃ g cap cur, v = .slice (some ⟨g, 0, none⟩) m cap ∧ m ≤ cap ∧ h g = some (.cells cur e (0, 0)) ∧ cur.size = cap * sz ∧ cur.toList.take (m * sz) = xs) (hl : ListR sz R xs l) (hm : l.length = m) (hmax : m ≤ 140737488351232) : SlR h sz R v l := by
  obtain ⟨h1, h2⟩ := hl
  rcases hf with ⟨rfl, rfl⟩ | ⟨g, cap, cur, rfl, hmc, hg, hcs, htake⟩
  · have : l = [] := List.eq_nil_of_length_eq_zero hm
    subst this
    exact ⟨none, 0, rfl, Nat.le_refl _, by simp, .inl rfl⟩
  · refine ⟨some ⟨g, 0, none⟩, cap, by rw [hm], by omega, by omega, .inr ⟨g, 0, cur, e, (0, 0), rfl, hg, ?_, fun i x hx => ?_⟩⟩
    · rw [hm, hcs, Nat.zero_add]; exact Nat.mul_le_mul_right _ hmc
    · have h3 := h2 i x hx
      have hi : i < m := by have := (List.getElem?_eq_some_iff.1 hx).1; omega
      have hle : (i + 1) * sz ≤ m * sz := Nat.mul_le_mul_right _ hi
      rw [Nat.add_mul, Nat.one_mul] at hle
      rw [← htake, List.drop_take, List.take_take] at h3
      rw [Nat.zero_add]
      rwa [Nat.min_eq_left (by omega)] at h3

section made
variable {h : GH} {w : World}

theorem f62_ok {p d : Value} {e : Ent} (hp : SlR h 5 RulR p e.put) (hd : SlR h 1 IntR d e.drop) (hlen : e.put.length ≤ 1000) (hs : Sub h w) :
    Calls Try.prog 62 #[delV e p d] w fun e' w' => ∃ v h', e' = .returned v ∧ Grow h w h' w' ∧ ∃ p', v = delV e p' d ∧ SlR h' 5 RulR p' e.put := by
  refine Calls.enter [.agg (delC e p d)] Try.func62 (c := bodyOf Try.f62) (by kernel_rfl) Try.ntmps62 ⟨delC_ok hp hd _ _, trivial⟩ (by simp) hs ?_
  refine G.runE tm 100 ?_
  refine G.ownNil 0 124 5 ?_
  refine G.loop (α := Nat × Value × List Value)
    (fun x => ⟨[(2, .one (.atom (.ptr 1 0))), (3, .one (.atom (.ptr 2 0))), (18, .one (.atom (.sl p e.put.length))), (19, .one (.atom (.int .i64 e.put.length))), (20, .one (.atom (.int .i64 x.1)))],
      [(1, ⟨none, .lit 37 [.int .i64 0, .int .i64 0, .int .i64 0, .int .i64 0, .sl (.slice none 0 0) 0, .sl (.slice none 0 0) 0]⟩),
       (2, ⟨none, .lit 37 [.int .i64 e.dflt, .int .i64 e.closed, .int .i64 e.fuel, .int .i64 e.stack, .sl x.2.1 x.1, .sl d e.drop.length]⟩)], 3, [(0, ⟨124, 5, x.2.1, x.1, x.2.2⟩)]⟩)
    (fun x g => g = h ∧ x.1 ≤ e.put.length ∧ ListR 5 RulR x.2.2 (e.put.take x.1)) (fun x => e.put.length - x.1) (0, .slice none 0 0, []) [2, 3, 18, 19, 20] [1, 2] 3 [0] (by kernel_rfl) (by kernel_rfl) (by kernel_rfl) ⟨rfl, Nat.zero_le _, by simpa using ListR.nil⟩ ?_
  rintro ⟨i, v, xs⟩ g ⟨rfl, hi, hxs⟩ IH
  simp only at hi hxs
  refine G.runE tm 100 ?_
  refine G.cond (decide ((i : Int) < (e.put.length : Int))) (by kernel_rfl) (fun hc => ?_) (fun hc => ?_)
  · have hlt : i < e.put.length := by simpa using hc
    obtain ⟨r, hr⟩ := get_of_lt hlt
    refine G.runE tm 100 ?_
    refine G.idx (d1 := some 22) (g := none) (T := 29) (E := 114) hp Try.underlying29 z114 hlt (by kernel_rfl) (by kernel_rfl) ?_
    refine G.elRul (d1 := some 23) (g := none) (E := 114) hp z114 u114 hr (by kernel_rfl) (by kernel_rfl) ?_
    refine G.runE tm 100 ?_
    refine G.appLit (T := 35) (v := v) (m := i) (xs := xs) (kx := 4) (q := 1) (q' := 1) (d := some 28) el35 0 (by kernel_rfl) (by kernel_rfl) (by kernel_rfl) (bi := none) (e' := 124) (cs := rulC r) (by kernel_rfl)
      (news := [.int .i64 r.id, .int .i64 r.pri, .int .i64 r.act, .int .i64 r.sco, .string r.pat]) (by kernel_rfl) rfl (by omega) (by omega) fun v' _ => ?_
    refine G.runE tm 100 ?_
    refine G.reint (k := .i64) 20 (by kernel_rfl) (wrap_succ hlt hp.len) ?_
    refine G.back (by kernel_rfl) [2, 3, 18, 19, 20] [1, 2] 3 [0] (by kernel_rfl) (by kernel_rfl) (IH (i + 1, v', xs ++ [.int .i64 r.id, .int .i64 r.pri, .int .i64 r.act, .int .i64 r.sco, .string r.pat]) _ ⟨rfl, hlt, ?_⟩ (by simp only; omega))
    rw [List.take_add_one, hr]
    exact hxs.snoc rfl rfl
  · obtain rfl : i = e.put.length := by simp at hc; omega
    rw [List.take_length] at hxs
    refine G.freeze 0 (e := 124) (sz := 5) (v := v) (m := e.put.length) (xs := xs) (by kernel_rfl) fun h' hle hf _ => ?_
    have hv := SlR.of_freeze hf hxs rfl (by omega)
    refine G.runE tm 100 ?_
    exact G.retG Try.func62 Try.results62 (delV e v d) (by kernel_rfl) rfl fun w' hg => ⟨_, h', rfl, hg, v, rfl, hv⟩

/-- An entry's bounds in which the copies are made. -/
def Bnd (e : Ent) : Prop := e.put.length ≤ 1000

theorem EntR.mk {h : GH} {e : Ent} {p d : Value} (hp : SlR h 5 RulR p e.put) (hd : SlR h 1 IntR d e.drop) : EntR h [.int .i64 e.view, .int .i64 e.client, .int .i64 e.request, .int .i64 e.dflt, .int .i64 e.closed, .int .i64 e.fuel, .int .i64 e.stack, p, d] e :=
  ⟨p, d, rfl, hp, hd⟩

theorem f17_ok {v : Value} {l : List Ent} (hl : EntsR h v l) (hb : ∀ e ∈ l, Bnd e) (hn : l.length ≤ 100000) (hs : Sub h w) :
    Calls Try.prog 17 #[v] w fun e' w' => ∃ v' h', e' = .returned v' ∧ Grow h w h' w' ∧ EntsR h' v' l := by
  refine Calls.enter [.atom (.sl v l.length)] Try.func17 (c := bodyOf Try.f17) (by kernel_rfl) Try.ntmps17 ⟨hl.sv _ _, trivial⟩ (by simp) hs ?_
  refine G.runE tm 100 ?_
  refine G.ownNil 0 39 9 ?_
  refine G.loop (α := Nat × Value × List Value)
    (fun x => ⟨[(3, .one (.atom (.sl x.2.1 x.1))), (6, .one (.atom (.sl v l.length))), (7, .one (.atom (.int .i64 l.length))), (8, .one (.atom (.int .i64 x.1)))], [], 0, [(0, ⟨39, 9, x.2.1, x.1, x.2.2⟩)]⟩)
    (fun x g => GLe h g ∧ x.1 ≤ l.length ∧ ListR 9 (EntR g) x.2.2 (l.take x.1)) (fun x => l.length - x.1) (0, .slice none 0 0, []) [3, 6, 7, 8] [] 0 [0] (by kernel_rfl) (by kernel_rfl) (by kernel_rfl) ⟨GLe.refl h, Nat.zero_le _, by simpa using ListR.nil⟩ ?_
  rintro ⟨i, u, xs⟩ g ⟨hle, hi, hxs⟩ IH
  simp only at hi hxs
  refine G.runE tm 100 ?_
  refine G.cond (decide ((i : Int) < (l.length : Int))) (by kernel_rfl) (fun hc => ?_) (fun hc => ?_)
  · have hlt : i < l.length := by simpa using hc
    obtain ⟨e, he⟩ := get_of_lt hlt
    refine G.runE tm 100 ?_
    refine G.idx (d1 := some 10) (g := none) (T := 22) (E := 34) (hl.mono hle) Try.underlying22 z34 hlt (by kernel_rfl) (by kernel_rfl) ?_
    refine G.elEnt (d1 := some 11) (g := none) (E := 34) (hl.mono hle) z34 u34 he (by kernel_rfl) (by kernel_rfl) fun p d hp hd => ?_
    refine G.runE tm 100 ?_
    refine G.draw [0] tm (by kernel_rfl) (by kernel_rfl) ?_
    refine GD.run (by kernel_rfl) 50 ?_
    refine GD.one 9 (by kernel_rfl) (GDop.callP (f := 62) (svs := [.agg (delC e p d)]) (dst := some 21) (by kernel_rfl) [delV e p d] (by kernel_rfl) (by kernel_rfl) (by kernel_rfl) (by kernel_rfl)
      (fun h' v' => ∃ p', v' = delV e p' d ∧ SlR h' 5 RulR p' e.put) (fun w hw => f62_ok hp hd (hb e (List.mem_of_getElem? he)) hw) ?_)
    rintro g' v' ⟨p', rfl, hp'⟩ hgg
    have hd' := hd.mono hgg fun _ _ h => h
    refine ⟨.one (.agg (delC e p' d)), fun N β _ => delC_ok hp' hd' N β, ?_⟩
    refine GD.run (by kernel_rfl) 50 ?_
    refine GD.one 12 (by kernel_rfl) (GDop.appLit (T := 27) (v := u) (m := i) (xs := xs) (kx := 1) (q := 1) (q' := 1) (d := some 24) el27 0 (by kernel_rfl) (by kernel_rfl) (by kernel_rfl) (bi := none) (e' := 39) (cs := entC e p' d) (by kernel_rfl)
      (news := [.int .i64 e.view, .int .i64 e.client, .int .i64 e.request, .int .i64 e.dflt, .int .i64 e.closed, .int .i64 e.fuel, .int .i64 e.stack, p', d]) (by kernel_rfl) rfl (by omega) (by omega) fun u' _ => ?_)
    refine GD.run (by kernel_rfl) 50 ?_
    refine GD.fin (by kernel_rfl) ?_
    refine G.runE tm 100 ?_
    refine G.reint (k := .i64) 8 (by kernel_rfl) (wrap_succ hlt hl.len) ?_
    refine G.back (by kernel_rfl) [3, 6, 7, 8] [] 0 [0] (by kernel_rfl) (by kernel_rfl) (IH (i + 1, u', xs ++ [.int .i64 e.view, .int .i64 e.client, .int .i64 e.request, .int .i64 e.dflt, .int .i64 e.closed, .int .i64 e.fuel, .int .i64 e.stack, p', d]) _ ⟨hle.trans hgg, hlt, ?_⟩ (by simp only; omega))
    rw [List.take_add_one, he]
    exact (hxs.mono fun _ _ h => h.mono hgg).snoc rfl (EntR.mk hp' hd')
  · obtain rfl : i = l.length := by simp at hc; omega
    rw [List.take_length] at hxs
    refine G.freeze 0 (e := 39) (sz := 9) (v := u) (m := l.length) (xs := xs) (by kernel_rfl) fun h' hle' hf _ => ?_
    have hv := SlR.of_freeze hf (hxs.mono fun _ _ h => h.mono hle') rfl (by omega)
    refine G.runE tm 100 ?_
    exact G.retG Try.func17 Try.results17 u (by kernel_rfl) rfl fun w' hg => ⟨_, h', rfl, hg, hv⟩
end made
end Go.Proofs.Ytkjahaoobdbffaa

/- The base of this seat's proofs, twenty-first part: appends of slices that nobody writes; slices of the call's own out of literals, read and written at any place. -/
namespace Go.Proofs.Ytkjahaoobdbffaa
open Go Go.RowKit

section sim
variable {P : Program} {hE : GH} {w0 : World} {inc : List Nat} {n : Nat} {s : S} {h : GH} {β : Nat → Nat} {w : World} {tmps : Array Value}

theorem Sim.dropBox (hS : Sim hE w0 inc n s h β w tmps) (k : Nat) : Sim hE w0 inc n { s with boxes := dropBox k s.boxes } h β w tmps :=
  ⟨hS.size, hS.slots, fun j x hj => hS.box j x (bx_drop hj).1, fun j l x y hj hl => hS.inj j l x y (bx_drop hj).1 (bx_drop hl).1, fun j x hj => hS.keys j x (bx_drop hj).1, fun j x hj => hS.fresh j x (bx_drop hj).1, hS.ghost, fun j x hj => hS.gno j x (bx_drop hj).1, hS.frame, hS.gle, hS.gold, hS.own,
    fun l o b ho hb' => ⟨(hS.ownB l o b ho hb').1, fun j x hj => (hS.ownB l o b ho hb').2.1 j x (bx_drop hj).1, (hS.ownB l o b ho hb').2.2⟩, hS.ownI⟩

/-- A literal's block is a slice of the call's own. -/
theorem Sim.boxOwn (hS : Sim hE w0 inc n s h β w tmps) {k j sz m : Nat} {bi : Option Nat} {e : TypeId} {cs : List Cell} {vs : List Value} (hb : bx k s.boxes = some ⟨bi, .lit e cs⟩) (hv : cellVals cs = some vs) (hl : vs.length = m * sz) (hm : m ≤ maxLen) :
    Sim hE w0 inc n (setOwn j ⟨e, sz, .slice (some ⟨β k, 0, none⟩) m m, m, vs⟩ { s with boxes := Ytkjahaoobdbffaa.dropBox k s.boxes }) h β w tmps := by
  have hcell : w.heap[β k]? = some (.cells vs.toArray e (0, 0)) := by
    obtain ⟨arr, h1, h2⟩ := hS.box k _ hb
    rw [h1, ← cellVals_ok hv h2]
  have hfr := hS.fresh k _ hb
  refine (hS.dropBox k).addOwn ⟨hl, .inr ⟨β k, m, vs.toArray, rfl, Nat.zero_le _, hcell, Nat.le_refl _, hm, by simpa using hl, by simp [← hl]⟩⟩ fun b hb' => ?_
  simp only [Value.ownBlock, Option.some.injEq] at hb'
  subst hb'
  refine ⟨hS.gno k _ hb, fun i x hi => hS.inj i k x _ (bx_drop hi).1 hb (bx_drop hi).2, ?_, fun l p hl hp => (hS.ownB l p _ hl hp).2.1 k _ hb rfl⟩
  cases bi with
  | none => exact .inr hfr
  | some m => simp only at hfr; rw [hfr.1]; exact hfr.2
end sim

theorem G.boxOwn {C : Ctx} {h : GH} {c : Cfg} (k t j : Nat) {sz m : Nat} {bi : Option Nat} {e : TypeId} {cs : List Cell} {vs : List Value} (hb : bx k c.s.boxes = some ⟨bi, .lit e cs⟩) (hv : cellVals cs = some vs) (hl : vs.length = m * sz) (hm : m ≤ 1000000) (ht : lk t c.s.slots = .one (.atom (.bsl k 0 m m)))
    (hk : ∀ b, G C h ⟨c.todo, ⟨(t, .one (.atom (.sl (.slice (some ⟨b, 0, none⟩) m m) m))) :: c.s.slots, dropBox k c.s.boxes, c.s.nb, (j, ⟨e, sz, .slice (some ⟨b, 0, none⟩) m m, m, vs⟩) :: c.s.owns⟩⟩) : G C h c := by
  intro β w tmps hS
  exact hk (β k) β w tmps ((hS.bslVal ht).boxOwn (j := j) hb hv hl (by unfold maxLen; omega))

/-- The cells of a slice that nobody writes. -/
theorem SlR.cells {α : Type} {h : GH} {sz : Nat} {R : List Value → α → Prop} {v : Value} {l : List α} (hs : SlR h sz R v l) (h1 : ∀ cs y, R cs y → ∀ u ∈ cs, u.oneCell' = true) :
    ∃ xs, ListR sz R xs l ∧ (∀ u ∈ xs, u.oneCell' = true) ∧ ∀ w, Sub h w → (l = [] ∧ xs = []) ∨ ∃ a cap, v = .slice (some a) l.length cap ∧ ∀ j u, xs[j]? = some u → w.cell? (a.add j) = some u := by
  obtain ⟨ao, cap, rfl, h2, h3, h4⟩ := hs
  rcases h4 with rfl | ⟨b, off, arr, T, fr, rfl, e2, e3, e4⟩
  · exact ⟨[], ListR.nil, by simp, fun w _ => .inl ⟨rfl, rfl⟩⟩
  · have hlen : ((arr.toList.drop off).take (l.length * sz)).length = l.length * sz := by simp; omega
    have hrow : ListR sz R ((arr.toList.drop off).take (l.length * sz)) l := by
      refine ⟨hlen, fun i x hx => ?_⟩
      have hi := (List.getElem?_eq_some_iff.1 hx).1
      have hle : (i + 1) * sz ≤ l.length * sz := Nat.mul_le_mul_right _ hi
      rw [Nat.add_mul, Nat.one_mul] at hle
      rw [List.drop_take, List.drop_drop, List.take_take, show min sz (l.length * sz - i * sz) = sz by omega]
      exact e4 i x hx
    refine ⟨_, hrow, ?_, fun w hw => .inr ⟨_, cap, rfl, fun j u hj => ?_⟩⟩
    · intro u hu
      obtain ⟨j, hj⟩ := List.getElem?_of_mem hu
      have hjl : j < l.length * sz := by rw [← hlen]; exact (List.getElem?_eq_some_iff.1 hj).1
      have hsz : 0 < sz := by rcases Nat.eq_zero_or_pos sz with h0 | h0; · subst h0; omega
                              · exact h0
      have hi : j / sz < l.length := by rw [Nat.div_lt_iff_lt_mul hsz]; exact hjl
      obtain ⟨x, hx⟩ : ∃ x, l[j / sz]? = some x := ⟨l[j / sz], by simp [hi]⟩
      refine h1 _ x (hrow.2 _ x hx) u ?_
      have hmod : j % sz < sz := Nat.mod_lt _ hsz
      have hdm : j / sz * sz + j % sz = j := by rw [Nat.mul_comm]; exact Nat.div_add_mod j sz
      have : ((((arr.toList.drop off).take (l.length * sz)).drop (j / sz * sz)).take sz)[j % sz]? = some u := by
        rw [List.getElem?_take, if_pos hmod, List.getElem?_drop, hdm]; exact hj
      exact List.mem_of_getElem? this
    · rw [Addr.add_lit, cell_of_heap (hw _ _ e2)]
      rw [List.getElem?_take] at hj
      split at hj
      · rw [List.getElem?_drop] at hj; simpa using hj
      · simp at hj

theorem run_append_none {P : Program} {T e ty : TypeId} {sz by_ : Nat} (hEl : ElT P T e sz by_) (v : Value) {m c : Nat} {ao : Option Addr} (hv : v = .slice ao m c) (hmc : m ≤ c) {bo : Option Addr} {cb : Nat} (w : World) :
    (Builtin.append_ #[T, T] ty #[v, .slice bo 0 cb]).run P w = .ok v w := by
  subst hv
  obtain ⟨i, z, hi, hz, hsz, hb, hzs⟩ := hEl.hz
  have hl : ∀ a : Addr, (loadCells a 0).run P w = .ok #[] w := fun a => by
    have := run_loadCells_list (P := P) w a [] (fun j v hj => by simp at hj)
    simpa using this
  cases ao <;> cases bo <;> simp [Builtin.append_, run_underlying hEl.hT, sizeOf, typeInfo, hi, Builtin.lenOf, hmc, Builtin.firstCells, hl, storeCells]

theorem app_gh {P : Program} {hE : GH} {w0 : World} {inc : List Nat} {n : Nat} {s : S} {h : GH} {β : Nat → Nat} {w : World} {tmps : Array Value} (hS : Sim hE w0 inc n s h β w tmps) {T e ty : TypeId} {sz by_ : Nat} (hEl : ElT P T e sz by_) {k : Nat} {v : Value} {m : Nat} {xs : List Value}
    (ho : ow k s.owns = some ⟨e, sz, v, m, xs⟩) {α : Type} {R : List Value → α → Prop} {x : Value} {l : List α} {news : List Value} (hx : ∃ a c, x = .slice a l.length c) (hR : ListR sz R news l) (h1 : ∀ u ∈ news, u.oneCell' = true)
    (hc : (l = [] ∧ news = []) ∨ ∃ a cap, x = .slice (some a) l.length cap ∧ ∀ j u, news[j]? = some u → w.cell? (a.add j) = some u) (hmax : m + l.length ≤ 140737488351232) (hby : (m + l.length) * by_ ≤ 140737488355328) :
    ∃ v' w', (Builtin.append_ #[T, T] ty #[v, x]).run P w = .ok v' w' ∧ (∃ a' c', v' = .slice a' (m + l.length) c') ∧ Sim hE w0 inc n (setOwn k ⟨e, sz, v', m + l.length, xs ++ news⟩ s) h β w' tmps ∧ w.grownBy w' v.ownBlock := by
  rcases hc with ⟨rfl, rfl⟩ | ⟨a, cap, rfl, hcell⟩
  · obtain ⟨bo, cb, rfl⟩ := hx
    have hrow := hS.own k _ ho
    simp only at hrow
    have hform : ∃ ao c, v = .slice ao m c ∧ m ≤ c := by
      rcases hrow.2 with ⟨rfl, h0⟩ | ⟨g, cap, cur, rfl, _, _, h3, _⟩
      · exact ⟨none, 0, by rw [h0], by omega⟩
      · exact ⟨_, _, rfl, h3⟩
    obtain ⟨ao, c, hv, hmc⟩ := hform
    refine ⟨v, w, run_append_none hEl v hv hmc w, ⟨ao, c, hv⟩, ?_, ⟨rfl, rfl, rfl, Nat.le_refl _, fun _ _ _ => rfl⟩⟩
    have hw : w.grownBy w v.ownBlock := ⟨rfl, rfl, rfl, Nat.le_refl _, fun _ _ _ => rfl⟩
    simpa using hS.reown ho hw hrow (.inl rfl)
  · obtain ⟨v', w', h2, h3, h4, h5, -⟩ := app_own hS hEl (ty := ty) ho hR.1 hcell h1 hmax hby (c := cap)
    exact ⟨v', w', h2, h3, h4, h5⟩

/-- **append of a slice that nobody writes to one of the call's own.** -/
theorem G.appGh {C : Ctx} {h : GH} {c : Cfg} {T e : TypeId} {sz by_ : Nat} (hEl : ElT C.P T e sz by_) (k : Nat) {v : Value} {m : Nat} {xs : List Value} {x : Value} {q : Nat} {d : Option Nat} (ha : appView c = some ⟨T, T, .atom (.sl v m), .atom (.sl x q), d⟩) (hd : dstOk C.n d = true)
    (ho : ow k c.s.owns = some ⟨e, sz, v, m, xs⟩) {α : Type} {R : List Value → α → Prop} {l : List α} (hx : SlR h sz R x l) (h1 : ∀ cs y, R cs y → ∀ u ∈ cs, u.oneCell' = true) (hmax : m + l.length ≤ 140737488351232) (hby : (m + l.length) * by_ ≤ 140737488355328)
    (hk : ∀ v' news, ListR sz R news l → G C h (afterOp (withS c (setOwn k ⟨e, sz, v', m + l.length, xs ++ news⟩ c.s)) (.one (.atom (.sl v' (m + l.length)))))) : G C h c := by
  unfold appView at ha
  split at ha
  · rename_i o hop
    have hs : ∀ β w tmps, Sim C.hE C.w0 C.inc C.n c.s h β w tmps → o.guard = none ∧ d = o.dst := fun β w tmps hS => let ⟨a, b, _⟩ := appOf_ok (P := C.P) hS ha; ⟨a, b⟩
    intro β w tmps hS
    obtain ⟨hg, hdd⟩ := hs β w tmps hS
    refine G.opR hop hg (hdd ▸ hd) ?_ β w tmps hS
    intro β w tmps hS
    obtain ⟨_, _, a, b, hav, hbv, hrun⟩ := appOf_ok (P := C.P) hS ha
    simp only [SV1Ok, CellOk] at hav hbv
    obtain ⟨rfl, _⟩ := hav
    obtain ⟨rfl, _⟩ := hbv
    obtain ⟨news, hR, h2, h3⟩ := hx.cells h1
    obtain ⟨v', w', e1, e2, e3, -⟩ := app_gh hS hEl (ty := o.type) ho hx.isSlice hR h2 (h3 w hS.sub) hmax hby
    exact ⟨v', w', β, h, _, .one (.atom (.sl v' (m + l.length))), hrun _ _ e1, e3, fun tmps' => ⟨rfl, e2⟩, hk v' news hR⟩
  · simp at ha

/-! ### append to a slice that is full: a new block -/

theorem Grow.newBlock {h : GH} {w : World} (hs : Sub h w) (o : Obj) : Grow h w (addG h w.heap.size o) (w.drew.alloc o) := by
  have hn : h w.heap.size = none := by
    cases hh : h w.heap.size with
    | none => rfl
    | some x => have := (Array.getElem?_eq_some_iff.1 (hs _ _ hh)).1; omega
  refine ⟨⟨rfl, rfl, rfl, (show w.heap.size ≤ (w.heap.push o).size by simp), fun k hk => Below.heap_alloc w.drew o k hk⟩, fun b o' hb => ?_, fun b hb => ?_, fun b o' hb => ?_⟩
  · unfold addG
    rw [if_neg (fun e => by rw [e, hn] at hb; cases hb)]; exact hb
  · unfold addG
    rw [if_neg (by omega)]
  · unfold addG at hb
    split at hb
    · rename_i e
      simp only [Option.some.injEq] at hb; subst hb; subst e
      exact (MapKept.heap_alloc w.drew o).1
    · have := hs b o' hb
      rw [← this]
      exact Below.heap_alloc w.drew o b (Array.getElem?_eq_some_iff.1 this).1

theorem ListR.append {α : Type} {sz : Nat} {R : List Value → α → Prop} {xs ys : List Value} {l k : List α} (h : ListR sz R xs l) (g : ListR sz R ys k) : ListR sz R (xs ++ ys) (l ++ k) := by
  obtain ⟨h1, h2⟩ := h
  obtain ⟨g1, g2⟩ := g
  refine ⟨by simp [h1, g1, Nat.add_mul], fun i y hy => ?_⟩
  by_cases hi : i < l.length
  · rw [List.getElem?_append_left hi] at hy
    have hle : (i + 1) * sz ≤ l.length * sz := Nat.mul_le_mul_right _ hi
    rw [Nat.add_mul, Nat.one_mul] at hle
    rw [List.drop_append_of_le_length (by omega), List.take_append_of_le_length (by rw [List.length_drop]; omega)]
    exact h2 i y hy
  · rw [List.getElem?_append_right (by omega)] at hy
    have hge : l.length * sz ≤ i * sz := Nat.mul_le_mul_right _ (by omega)
    have : (xs ++ ys).drop (i * sz) = ys.drop ((i - l.length) * sz) := by
      rw [List.drop_append, List.drop_eq_nil_of_le (by omega), List.nil_append, h1, Nat.sub_mul]
    rw [this]
    exact g2 _ y hy

theorem SlR.of_list {α : Type} {h : GH} {sz b cap m : Nat} {R : List Value → α → Prop} {xs : List Value} {l : List α} {rest : Array Value} {T : TypeId} {fr : Nat × Nat} (hl : ListR sz R xs l) (hm : l.length = m) (hb : h b = some (.cells (xs.toArray ++ rest) T fr)) (hc : m ≤ cap) (hmax : m ≤ 140737488351232) : SlR h sz R (.slice (some ⟨b, 0, none⟩) m cap) l := by
  subst hm
  obtain ⟨h1, h2⟩ := hl
  refine ⟨_, cap, rfl, hc, hmax, .inr ⟨b, 0, _, T, fr, rfl, hb, by simp; omega, fun i x hx => ?_⟩⟩
  have hi := (List.getElem?_eq_some_iff.1 hx).1
  have hle : (i + 1) * sz ≤ l.length * sz := Nat.mul_le_mul_right _ hi
  rw [Nat.add_mul, Nat.one_mul] at hle
  simp only [Nat.zero_add, Array.toList_append]
  rw [List.drop_append_of_le_length (by omega), List.take_append_of_le_length (by rw [List.length_drop]; omega)]
  exact h2 i x hx

theorem app_full {P : Program} {h : GH} {w : World} (hs : Sub h w) {T e ty : TypeId} {sz by_ : Nat} (hEl : ElT P T e sz by_) {α : Type} {R : List Value → α → Prop} {v x : Value} {l k : List α} (hv : SlR h sz R v l) (hfull : ∃ ao, v = .slice ao l.length l.length) (hnil : v = .slice none 0 0 ∨ ∃ a, v = .slice (some a) l.length l.length)
    (hx : SlR h sz R x k) (h1 : ∀ cs y, R cs y → ∀ u ∈ cs, u.oneCell' = true) (hmax : l.length + k.length ≤ 1000000) (hby : by_ ≤ 1000) :
    ∃ v' w' h', (Builtin.append_ #[T, T] ty #[v, x]).run P w = .ok v' w' ∧ Grow h w h' w' ∧ SlR h' sz R v' (l ++ k) := by
  obtain ⟨i, z, hi, hz, hsz, hb, hzs⟩ := hEl.hz
  by_cases hk : k = []
  · subst hk
    obtain ⟨ao, hv'⟩ := hfull
    obtain ⟨bo, cb, hx'⟩ := hx.isSlice
    subst hx'
    exact ⟨v, w, h, run_append_none hEl v hv' (Nat.le_refl _) w, .of_below hs (Below.refl _ _), by simpa using hv⟩
  · have hkl : 0 < k.length := List.length_pos_iff.2 hk
    obtain ⟨ys, hR, h2, h3⟩ := hx.cells h1
    rcases h3 w hs with ⟨h0, -⟩ | ⟨a, cap, rfl, hcell⟩
    · exact absurd h0 hk
    rcases hnil with rfl | ⟨b, rfl⟩
    · obtain ⟨ao, hao⟩ := hfull
      have hl0 : l = [] := by
        simp only [Value.slice.injEq] at hao
        exact List.eq_nil_of_length_eq_zero hao.2.1.symm
      subst hl0
      have hr := run_append_nil (P := P) w T ty e i z hEl.hT hi hz a k.length cap ys (by rw [hR.1, hsz]) hcell hkl (by simp at hmax; omega) (by
        rw [hb]; simp at hmax
        have : k.length * by_ ≤ 1000000 * 1000 := Nat.mul_le_mul hmax hby
        omega)
      refine ⟨_, _, _, hr, Grow.newBlock hs _, ?_⟩
      exact SlR.of_list (xs := ys) (T := e) (fr := (0, 0)) (rest := Builtin.zeroCells z.cells (grownCap w k.length 0 e - k.length)) (by simpa using hR) (by simp) (by simp [addG]) (grownCap_ge _ _ _ _) (by simp at hmax; omega)
    · obtain ⟨xs, hRv, g2, g3⟩ := hv.cells h1
      have holds : ∀ j u, xs[j]? = some u → w.cell? (b.add j) = some u := by
        rcases g3 w hs with ⟨-, rfl⟩ | ⟨b', cap', he, hc⟩
        · intro j u hj; simp at hj
        · simp only [Value.slice.injEq, Option.some.injEq] at he
          obtain ⟨rfl, -, -⟩ := he
          exact hc
      have hfit : Builtin.nextslicecap (l.length + k.length) l.length * i.bytes ≤ 281474976710656 := by
        rw [hb]
        have h9 : (l.length + k.length) * by_ ≤ 1000000 * 1000 := Nat.mul_le_mul hmax hby
        exact growslice_fits (need := l.length + k.length) (old := l.length) (bytes := by_) (by omega) (by omega)
      have hr := run_append_grow (P := P) w T ty e i z hEl.hT hi hz b l.length l.length xs (by rw [hRv.1, hsz]) holds a k.length cap ys (by rw [hR.1, hsz]) hcell (by omega) (by omega) hfit
      refine ⟨_, _, _, hr, Grow.newBlock hs _, ?_⟩
      exact SlR.of_list (xs := xs ++ ys) (T := e) (fr := (0, 0)) (rest := Builtin.zeroCells z.cells (grownCap w (l.length + k.length) l.length e - (l.length + k.length))) (hRv.append hR) (by simp) (by simp [addG]) (grownCap_ge _ _ _ _) (by omega)
end Go.Proofs.Ytkjahaoobdbffaa

/- The base of this seat's proofs, twenty-second part: append to a full slice, in the walk; slices of the call's own read and written at any place. -/
namespace Go.Proofs.Ytkjahaoobdbffaa
open Go Go.RowKit

/-- **append to a slice that is full.** -/
theorem G.appSl {C : Ctx} {h : GH} {c : Cfg} {T e : TypeId} {sz by_ : Nat} (hEl : ElT C.P T e sz by_) {v x : Value} {m q : Nat} {d : Option Nat} (ha : appView c = some ⟨T, T, .atom (.sl v m), .atom (.sl x q), d⟩) (hd : dstOk C.n d = true)
    {α : Type} {R : List Value → α → Prop} {l k : List α} (hv : SlR h sz R v l) (hnil : v = .slice none 0 0 ∨ ∃ a, v = .slice (some a) l.length l.length) (hx : SlR h sz R x k) (h1 : ∀ cs y, R cs y → ∀ u ∈ cs, u.oneCell' = true) (hmax : l.length + k.length ≤ 1000000) (hby : by_ ≤ 1000)
    (hk : ∀ v' h', GLe h h' → SlR h' sz R v' (l ++ k) → G C h' (afterOp c (.one (.atom (.sl v' (l.length + k.length)))))) : G C h c := by
  unfold appView at ha
  split at ha
  · rename_i o hop
    have hs : ∀ β w tmps, Sim C.hE C.w0 C.inc C.n c.s h β w tmps → o.guard = none ∧ d = o.dst := fun β w tmps hS => let ⟨a, b, _⟩ := appOf_ok (P := C.P) hS ha; ⟨a, b⟩
    intro β w tmps hS
    obtain ⟨hg, hdd⟩ := hs β w tmps hS
    refine G.opR hop hg (hdd ▸ hd) ?_ β w tmps hS
    intro β w tmps hS
    obtain ⟨_, _, a, b, hav, hbv, hrun⟩ := appOf_ok (P := C.P) hS ha
    simp only [SV1Ok, CellOk] at hav hbv
    obtain ⟨rfl, _⟩ := hav
    obtain ⟨rfl, _⟩ := hbv
    have hfull : ∃ ao, a = .slice ao l.length l.length := by
      rcases hnil with h0 | ⟨b, h0⟩
      · obtain ⟨ao, c, h2⟩ := hv.isSlice
        rw [h0] at h2
        simp only [Value.slice.injEq] at h2
        exact ⟨none, by rw [h0, ← h2.2.1]⟩
      · exact ⟨_, h0⟩
    obtain ⟨v', w', h', e1, e2, e3⟩ := app_full hS.sub hEl (ty := o.type) hv hfull hnil hx h1 hmax hby
    refine ⟨v', w', β, h', c.s, .one (.atom (.sl v' (l.length + k.length))), hrun _ _ e1, hS.grow e2, fun tmps' => ?_, ?_⟩
    · have := e3.sv c.s.nb β; rw [List.length_append] at this; exact this
    · exact hk v' h' e2.le e3
  · simp at ha

theorem GDop.appSl {C : Ctx} {h0 h : GH} {ops : Array Oper} {kk : List Item} {ks : List Nat} {dd : DCfg} {i : Nat} {T e : TypeId} {sz by_ : Nat} (hEl : ElT C.P T e sz by_) {v x : Value} {m q : Nat} {d : Option Nat} (ha : appAtD ops dd i = some ⟨T, T, .atom (.sl v m), .atom (.sl x q), d⟩) (hd : dstOk C.n d = true)
    {α : Type} {R : List Value → α → Prop} {l k : List α} (hv : SlR h sz R v l) (hnil : v = .slice none 0 0 ∨ ∃ a, v = .slice (some a) l.length l.length) (hx : SlR h sz R x k) (h1 : ∀ cs y, R cs y → ∀ u ∈ cs, u.oneCell' = true) (hmax : l.length + k.length ≤ 1000000) (hby : by_ ≤ 1000)
    (hk : ∀ v' h', GLe h h' → SlR h' sz R v' (l ++ k) → GD C h0 h' ops kk ks (afterN ops dd i dd.s (.one (.atom (.sl v' (l.length + k.length)))))) : GDop C h0 h ops kk ks dd i := by
  unfold appAtD at ha
  split at ha
  case h_2 => simp at ha
  rename_i o hi
  intro β w tmps L hS
  obtain ⟨hg, hdd, _⟩ := appOf_ok (P := C.P) hS ha
  refine GDop.opR hi hg (hdd ▸ hd) ?_ β w tmps L hS
  intro β w tmps hS
  obtain ⟨_, _, a, b, hav, hbv, hrun⟩ := appOf_ok (P := C.P) hS ha
  simp only [SV1Ok, CellOk] at hav hbv
  obtain ⟨rfl, _⟩ := hav
  obtain ⟨rfl, _⟩ := hbv
  have hfull : ∃ ao, a = .slice ao l.length l.length := by
    rcases hnil with h0 | ⟨b, h0⟩
    · obtain ⟨ao, c, h2⟩ := hv.isSlice
      rw [h0] at h2
      simp only [Value.slice.injEq] at h2
      exact ⟨none, by rw [h0, ← h2.2.1]⟩
    · exact ⟨_, h0⟩
  obtain ⟨v', w', h', e1, e2, e3⟩ := app_full hS.sub hEl (ty := o.type) hv hfull hnil hx h1 hmax hby
  refine ⟨v', w', β, h', dd.s, .one (.atom (.sl v' (l.length + k.length))), hrun _ _ e1, hS.grow e2, fun tmps' => ?_, e2.le, fun x hx => ?_, hk v' h' e2.le e3⟩
  · have := e3.sv dd.s.nb β; rw [List.length_append] at this; exact this
  · rintro ⟨bb, hbb⟩
    exact ⟨rfl, e2.below.block _ (hS.box x bb hbb).lt, bb, hbb⟩

/-! ### Slices of the call's own, read and written at any place -/

theorem run_idx {P : Program} {T E : TypeId} {g n c i sz : Nat} (hu : P.underlying T = some (.slice E)) (hz : sizeP P E = some sz) (hi : i < n) (w : World) :
    (Instr.indexAt T (.slice (some ⟨g, 0, none⟩) n c) (.int .i64 i)).run P w = .ok (.pointer (some ⟨g, i * sz, none⟩)) w := by
  have hc : (0 : Int) ≤ (i : Int) ∧ (i : Int) < (n : Int) := ⟨by omega, by omega⟩
  simp only [Instr.indexAt, asIntOf, Sem.run_bind, Sem.run_pure, Result.andThen_ok, run_underlying hu, Sem.run_ite, if_pos hc, run_sizeP hz, Int.toNat_natCast, Addr.add_lit, Nat.zero_add]

structure LdView where
  T : TypeId
  g : Nat
  off : Nat
  d : Option Nat

def ldAtD (ops : Array Oper) (d : DCfg) (i : Nat) : Option LdView := match ops[i]? with
  | some o => match o.op, o.guard with
    | .load T x, none => match evS d.s [] x with
      | some (.atom (.raw (.pointer (some ⟨g, off, none⟩)))) => some ⟨T, g, off, o.dst⟩
      | _ => none
    | _, _ => none
  | none => none

theorem own_block {w : World} {e : TypeId} {sz m : Nat} {g n c : Nat} {xs : List Value} (h : w.ownsRow 0 e sz (.slice (some ⟨g, 0, none⟩) n c) m xs) : ∃ cur, w.heap[g]? = some (.cells cur e (0, 0)) ∧ m = n ∧ cur.size = c * sz ∧ n ≤ c ∧ cur.toList.take (n * sz) = xs ∧ c ≤ maxLen := by
  rcases h.2 with ⟨h0, -⟩ | ⟨g', cap, cur, h0, -, h1, h2, h5, h3, h4⟩
  · simp at h0
  · simp only [Value.slice.injEq, Option.some.injEq, Addr.mk.injEq, and_true] at h0
    obtain ⟨rfl, rfl, rfl⟩ := h0
    exact ⟨cur, h1, rfl, h3, h2, h4, h5⟩

theorem GDop.ownLd {C : Ctx} {h0 h : GH} {ops : Array Oper} {kk : List Item} {ks : List Nat} {dd : DCfg} {i : Nat} {T : TypeId} {g off : Nat} {d : Option Nat} (hv : ldAtD ops dd i = some ⟨T, g, off, d⟩) (hd : dstOk C.n d = true) (hT : ∃ x, C.P.underlying T = some x ∧ isAggD x = false) (k : Nat) {e : TypeId} {sz n c : Nat} {xs : List Value}
    (ho : ow k dd.s.owns = some ⟨e, sz, .slice (some ⟨g, 0, none⟩) n c, n, xs⟩) {u : Value} (hu : xs[off]? = some u) (sv : SV1) (hsv : ∀ N β, SV1Ok N β sv u) (hk : GD C h0 h ops kk ks (afterN ops dd i dd.s (.one sv))) : GDop C h0 h ops kk ks dd i := by
  unfold ldAtD at hv
  split at hv
  case h_2 => simp at hv
  rename_i o hi
  split at hv
  case h_2 => simp at hv
  rename_i T' x hop hg
  split at hv
  case h_2 => simp at hv
  rename_i g' off' hev
  simp only [Option.some.injEq, LdView.mk.injEq] at hv
  obtain ⟨rfl, rfl, rfl, rfl⟩ := hv
  refine GDop.opR hi hg hd fun β w tmps hS => ?_
  have hp := evS_atom hS GOk.nil hev
  simp only [CellOk] at hp
  have hrow : w.ownsRow 0 e sz (.slice (some ⟨g', 0, none⟩) n c) n xs := hS.own k _ ho
  obtain ⟨cur, h1, -, -, -, h4, -⟩ := own_block hrow
  obtain ⟨y, hy, hag⟩ := hT
  have hc : w.cell? ⟨g', off', none⟩ = some u := by
    rw [cell_of_heap h1, ← Array.getElem?_toList]
    rw [← h4, List.getElem?_take] at hu
    split at hu
    · exact hu
    · simp at hu
  refine ⟨u, w, β, h, dd.s, .one sv, ?_, hS, fun _ => hsv _ _, GLe.refl h, fun x hx hb => ⟨rfl, rfl, hb⟩, hk⟩
  simp [execOp, hop, hp.1, Instr.loadAt, Instr.sureAddr, loadVar, run_isAggP hy, hag, hc]

structure StView where
  T : TypeId
  g : Nat
  off : Nat
  u : Value

def stAtD (ops : Array Oper) (d : DCfg) (i : Nat) : Option StView := match ops[i]? with
  | some o => match o.op, o.guard, o.dst with
    | .store T x y, none, none => match evS d.s [] x, evS d.s [] y with
      | some (.atom (.raw (.pointer (some ⟨g, off, none⟩)))), some sv => match sv.val with
        | some u => some ⟨T, g, off, u⟩
        | none => none
      | _, _ => none
    | _, _, _ => none
  | none => none

theorem GDop.ownSt {C : Ctx} {h0 h : GH} {ops : Array Oper} {kk : List Item} {ks : List Nat} {dd : DCfg} {i : Nat} {T : TypeId} {g off : Nat} {u : Value} (hv : stAtD ops dd i = some ⟨T, g, off, u⟩) (hz : sizeP C.P T = some 1) (h1c : u.oneCell' = true) (k : Nat) {e : TypeId} {sz n c : Nat} {xs : List Value}
    (ho : ow k dd.s.owns = some ⟨e, sz, .slice (some ⟨g, 0, none⟩) n c, n, xs⟩) (hoff : off < xs.length) (hk : GD C h0 h ops kk ks (nextD dd i (setOwn k ⟨e, sz, .slice (some ⟨g, 0, none⟩) n c, n, xs.set off u⟩ dd.s))) : GDop C h0 h ops kk ks dd i := by
  unfold stAtD at hv
  split at hv
  case h_2 => simp at hv
  rename_i o hi
  split at hv
  case h_2 => simp at hv
  rename_i T' x y hop hg hdst
  split at hv
  case h_2 => simp at hv
  rename_i g' off' sv hx hy
  split at hv
  case h_2 => simp at hv
  rename_i u' hval
  simp only [Option.some.injEq, StView.mk.injEq] at hv
  obtain ⟨rfl, rfl, rfl, rfl⟩ := hv
  intro β w tmps L hS hL hlive hle
  obtain ⟨fuel, listed, s⟩ := dd
  simp only at hS hL hlive ho hx hy
  have hp := evS_atom hS GOk.nil hx
  simp only [CellOk] at hp
  have hvv := SV1.val_ok hval (evS_ok hS GOk.nil hy)
  have hrow : w.ownsRow 0 e sz (.slice (some ⟨g', 0, none⟩) n c) n xs := hS.own k _ ho
  obtain ⟨cur, h1, -, h2, h3, h4, h5⟩ := own_block hrow
  have hlen : xs.length = n * sz := (hS.own k _ ho).1
  have hlt : off' < cur.size := by
    have : n * sz ≤ c * sz := Nat.mul_le_mul_right _ h3
    omega
  have hcell : u'.cells = #[u'] := by cases u' <;> simp_all [Value.cells, Value.oneCell']
  have hst := run_storeCells_at C.P g' off' e [u'] 0 cur w h1 (by simp; omega) (by simpa using h1c)
  simp only [Nat.add_zero, List.length_cons, List.length_nil] at hst
  have hrun : (execOp (evT tmps) o).run C.P w = .ok .skip (w.setRow g' (putCell cur off' u')) := by
    simp [execOp, hop, Instr.storeAt, Instr.sureAddr, hp.1, storeVar, run_sizeP hz, hvv, hcell, hst, putCell]
  have hnew : (w.setRow g' (putCell cur off' u')).heap[g']? = some (.cells (putCell cur off' u') e (0, 0)) := setRow_heap w g' cur _ e (0, 0) h1
  have hgrown : w.grownBy (w.setRow g' (putCell cur off' u')) (some g') := ⟨rfl, rfl, rfl, by simp [World.setRow], fun b _ hne => setRow_other fun e => hne (by rw [e])⟩
  have htake : (putCell cur off' u').toList.take (n * sz) = xs.set off' u' := by
    have e1 : (putCell cur off' u').toList = cur.toList.set off' u' := by
      simp only [putCell]
      rw [List.set_eq_take_append_cons_drop, if_pos (by simpa using hlt)]
      simp
    rw [e1, ← h4, List.take_set]
  have hS' := hS.reown (o' := ⟨e, sz, .slice (some ⟨g', 0, none⟩) n c, n, xs.set off' u'⟩) ho (by simpa [Value.ownBlock] using hgrown) ⟨by simpa using hlen, .inr ⟨g', c, _, rfl, Nat.zero_le _, hnew, h3, h5, by rw [putCell_size hlt]; exact h2, htake⟩⟩ (.inl rfl)
  have hL' : L = ks.map (fun x => (β x, (w.setRow g' (putCell cur off' u')).heap[β x]?)) := by
    rw [hL]
    refine List.map_congr_left fun x hx => ?_
    obtain ⟨bb, hbb⟩ := hlive x hx
    rw [setRow_other ((hS.ownB k _ g' ho rfl).2.1 x bb hbb)]
  refine wpOp_skip hi (by simp [Region.wanted, hg]) hrun ⟨by rw [hL']; exact Stays.of_sim hS' hle ks, ?_⟩
  rw [act_put, hdst]
  exact hk β _ _ L hS' hL' (fun x hx => hlive x hx) hle

/-- An own slice that is not empty lies in a block. -/
theorem G.ownBlk {C : Ctx} {h : GH} {c : Cfg} (k : Nat) {e : TypeId} {sz n : Nat} {v : Value} {xs : List Value} (ho : ow k c.s.owns = some ⟨e, sz, v, n, xs⟩) (hn : 0 < n) (hk : ∀ g cp, v = .slice (some ⟨g, 0, none⟩) n cp → G C h c) : G C h c := by
  intro β w tmps hS
  have := hS.own k _ ho
  simp only at this
  rcases this.2 with ⟨-, h0⟩ | ⟨g, cap, cur, h1, _⟩
  · omega
  · exact hk g cap h1 β w tmps hS

theorem ListR.setEnt {h : GH} {xs : List Value} {l : List Ent} (hl : ListR 9 (EntR h) xs l) {i : Nat} {e : Ent} (he : l[i]? = some e) {p d : Value} (hp : SlR h 5 RulR p e.put) (hd : SlR h 1 IntR d e.drop) : ListR 9 (EntR h) ((xs.set (i * 9 + 7) p).set (i * 9 + 8) d) l := by
  obtain ⟨h1, h2⟩ := hl
  have hi := (List.getElem?_eq_some_iff.1 he).1
  refine ⟨by simpa using h1, fun j x hx => ?_⟩
  have hj := (List.getElem?_eq_some_iff.1 hx).1
  have hrow := h2 j x hx
  by_cases hij : i = j
  · subst hij
    rw [he] at hx
    simp only [Option.some.injEq] at hx
    subst hx
    obtain ⟨p0, d0, h3, -, -⟩ := hrow
    refine ⟨p, d, ?_, hp, hd⟩
    apply List.ext_getElem?
    intro q
    have h4 := congrArg (fun l => l[q]?) h3
    simp only [List.getElem?_take, List.getElem?_drop, List.getElem?_set] at h4 ⊢
    match q with
    | 0 | 1 | 2 | 3 | 4 | 5 | 6 =>
      simp only [Nat.reduceLT, if_true] at h4 ⊢
      rw [if_neg (by omega), if_neg (by omega)]
      simpa using h4
    | 7 =>
      simp only [Nat.reduceLT, if_true] at h4 ⊢
      rw [if_neg (by omega), if_pos (by omega)]
      first | rfl | (rw [if_pos (by omega)]; rfl)
    | 8 =>
      simp only [Nat.reduceLT, if_true] at h4 ⊢
      rw [if_pos (by rw [List.length_set]; omega)]
      rfl
    | q + 9 => rw [if_neg (by omega)]; simp
  · have : (((xs.set (i * 9 + 7) p).set (i * 9 + 8) d).drop (j * 9)).take 9 = (xs.drop (j * 9)).take 9 := by
      apply List.ext_getElem?
      intro q
      simp only [List.getElem?_take, List.getElem?_drop, List.getElem?_set]
      split
      · rw [if_neg (by omega), if_neg (by omega)]
      · rfl
    rw [this]; exact hrow

/-- Operations known by their meaning are taken as soon as they may be. -/
theorem GD.sems {C : Ctx} {h0 h : GH} {ops : Array Oper} {k : List Item} {ks : List Nat} {d : DCfg} (tb : List SemRow) (hns : Region.noSelect ops = true) (htb : ∀ r ∈ tb, r.Ok C.P C.n h0) (m : Nat) (ho : (rnS C.P C.n ops ks tb m d).2.map (·.1) = (rnS C.P C.n ops ks tb m d).2.map (·.2)) (hk : GD C h0 h ops k ks (rnS C.P C.n ops ks tb m d).1) : GD C h0 h ops k ks d :=
  GD.runS hns htb m (oblsOk_of ho) hk
end Go.Proofs.Ytkjahaoobdbffaa

/- The codec as a writer: numbers. -/
namespace Go.Proofs.Ytkjahaoobdbffaa
open Go Go.RowKit
attribute [local irreducible] G GD GDop

theorem el40 : ElT Try.prog 40 5 1 1 := .of Try.underlying40 (by kernel_rfl) (by decide)
theorem z171 : sizeP Try.prog 171 = some 1 := by kernel_rfl
theorem u171 : ∃ d, Try.prog.underlying 171 = some d ∧ isAggD d = false := ⟨_, Try.underlying171, rfl⟩

/-- A codec that writes. -/
def codB (v : Value) (n : Nat) : BoxB := .lit 127 [.sl v n, .int .i64 0, .bool true, .bool false]
def codM (b : Nat) (v : Value) (xs : List Value) : Mem := ⟨[(b, codB v xs.length)], [⟨5, 1, v, xs.length, xs⟩]⟩

/-- One byte of a number. -/
def byteV (n : Int) (j : Nat) : Value := .int .u8 (IntKind.u8.wrap (IntKind.i64.wrap (n + 1) / 2 ^ (40 - 8 * j)))
def numV (n : Int) : List Value := (List.range 6).map (byteV n)

/-- A pointer to a number that nobody writes. -/
def PtrR (h : GH) (cs : List Value) (x : Int) : Prop := ∃ b off arr T fr, cs = [.pointer (some ⟨b, off, none⟩)] ∧ h b = some (.cells arr T fr) ∧ arr[off]? = some (.int .i64 x)

/-- What a call leaves that wrote zs behind. -/
def Wrote (h : GH) (w : World) (b : Nat) (v : Value) (xs zs : List Value) (e : Ending) (w' : World) : Prop :=
  ∃ v', e = .returned (.tuple #[]) ∧ Mend h w (codM b v xs) h w' (codM b v' (xs ++ zs))

theorem numV_succ (n : Int) {j : Nat} (hj : j < 6) : (numV n).take (j + 1) = (numV n).take j ++ [byteV n j] := by
  rw [List.take_add_one]
  simp [numV, hj]

theorem numV_len (n : Int) : (numV n).length = 6 := by simp [numV]

theorem PtrR.load {h : GH} {u : Value} {x : Int} (hp : PtrR h [u] x) {w : World} (hs : Sub h w) : (Instr.loadAt 3 u).run Try.prog w = .ok (.int .i64 x) w := by
  obtain ⟨b, off, arr, T, fr, h1, h2, h3⟩ := hp
  simp only [List.cons.injEq, and_true] at h1
  subst h1
  have : w.cell? ⟨b, off, none⟩ = some (.int .i64 x) := by rw [cell_of_heap (hs _ _ h2)]; exact h3
  simp [Instr.loadAt, Instr.sureAddr, loadVar, run_isAggP Try.underlying3, isAggD, this]

theorem run_shr {T : TypeId} (x y : Operand) (a b : Int) {m : Nat} (hb : b = m) (hm : m ≤ 40) (w : World) :
    (do eqGuard .shr T x y (.int .i64 a) (.int .i64 b); binOp .shr T (.int .i64 a) (.int .i64 b)).run Try.prog w = .ok (.int .i64 (a / 2 ^ m)) w := by
  have h0 : b.toNat = m := by omega
  simp [run_eqGuard_int, binOp, h0]

section num
variable {h : GH} {w : World}

theorem flat_len (l : List Int) : (l.flatMap numV).length = 6 * l.length := by
  induction l with
  | nil => rfl
  | cons a l ih => simp [ih, numV_len]; omega

theorem flat_succ {l : List Int} {i : Nat} {n : Int} (h : l[i]? = some n) : (l.take (i + 1)).flatMap numV = (l.take i).flatMap numV ++ numV n := by
  rw [List.take_add_one, h]; simp

theorem f118_ok {b : Nat} {v vs : Value} {xs : List Value} {l : List Int} (hl : SlR h 1 (PtrR h) vs l) (hm : MemOk h w (codM b v xs)) (hs : Sub h w) (hn : xs.length + 6 * l.length ≤ 140737488351232) :
    Calls Try.prog 118 #[.pointer (some ⟨b, 0, none⟩), vs] w (Wrote h w b v xs (l.flatMap numV)) := by
  refine Calls.enterM (codM b v xs) [.atom (.ptr 0 0), .atom (.sl vs l.length)] Try.func118 (c := bodyOf Try.f118) (by kernel_rfl) Try.ntmps118 (by kernel_rfl) hm ⟨⟨rfl, Nat.zero_lt_one⟩, hl.sv _ _, trivial⟩ (by simp) hs ?_
  refine G.runE tm 100 ?_
  refine G.loop (α := Nat × Value × List Value × Nat)
    (fun x => ⟨[(0, .one (.atom (.ptr 0 0))), (10, .one (.atom (.sl vs l.length))), (11, .one (.atom (.int .i64 l.length))), (12, .one (.atom (.int .i64 x.1)))],
      [(0, ⟨some b, codB x.2.1 x.2.2.2⟩)], 1, [(0, ⟨5, 1, x.2.1, x.2.2.2, x.2.2.1⟩)]⟩)
    (fun x g => g = h ∧ x.1 ≤ l.length ∧ x.2.2.1 = xs ++ (l.take x.1).flatMap numV ∧ x.2.2.2 = x.2.2.1.length) (fun x => l.length - x.1) (0, v, xs, xs.length) [0, 10, 11, 12] [0] 1 [0] (by kernel_rfl) (by kernel_rfl) (by kernel_rfl) ⟨rfl, Nat.zero_le _, by simp, rfl⟩ ?_
  rintro ⟨i, u, ys, m⟩ g ⟨rfl, hi, hys, hml⟩ IH
  simp only at hi hys hml
  have hyl : m = xs.length + 6 * i := by rw [hml, hys, List.length_append, flat_len, List.length_take]; omega
  refine G.runE tm 100 ?_
  refine G.cond (decide ((i : Int) < (l.length : Int))) (by kernel_rfl) (fun hc => ?_) (fun hc => ?_)
  · have hlt : i < l.length := by simpa using hc
    obtain ⟨n, hnx⟩ := get_of_lt hlt
    refine G.runE tm 100 ?_
    refine G.idx (d1 := some 14) (g := none) (T := 185) (E := 171) hl Try.underlying185 z171 hlt (by kernel_rfl) (by kernel_rfl) ?_
    refine G.el1 (d1 := some 15) (g := none) (E := 171) hl u171 hnx (by kernel_rfl) (by kernel_rfl) fun p hp => ?_
    obtain ⟨pb, po, hpe⟩ : ∃ pb po, p = .pointer (some ⟨pb, po, none⟩) := by
      obtain ⟨pb, po, arr, T, fr, h1, -⟩ := hp
      simp only [List.cons.injEq, and_true] at h1
      exact ⟨pb, po, h1⟩
    subst hpe
    refine ⟨.atom (.raw (.pointer (some ⟨pb, po, none⟩))), fun _ _ => ⟨rfl, rfl⟩, ?_⟩
    refine G.runE tm 100 ?_
    refine G.condT (b := true) (by kernel_rfl) rfl ?_
    refine G.runE tm 100 ?_
    refine G.loop (α := Nat × Value × List Value × Nat)
      (fun x => ⟨[(0, .one (.atom (.ptr 0 0))), (5, .one (.atom (.raw (.pointer (some ⟨pb, po, none⟩))))), (6, .one (.atom (.int .i64 (40 - 8 * (x.1 : Int))))), (10, .one (.atom (.sl vs l.length))), (11, .one (.atom (.int .i64 l.length))), (12, .one (.atom (.int .i64 i)))],
        [(0, ⟨some b, codB x.2.1 x.2.2.2⟩)], 1, [(0, ⟨5, 1, x.2.1, x.2.2.2, x.2.2.1⟩)]⟩)
      (fun x g' => g' = g ∧ x.1 ≤ 6 ∧ x.2.2.1 = ys ++ (numV n).take x.1 ∧ x.2.2.2 = m + x.1) (fun x => 6 - x.1) (0, u, ys, m) [0, 5, 6, 10, 11, 12] [0] 1 [0] (by kernel_rfl) (by kernel_rfl) (by kernel_rfl) ⟨rfl, Nat.zero_le _, by simp, rfl⟩ ?_
    rintro ⟨j, u', zs, m'⟩ g' ⟨rfl, hj, hzs, hm'⟩ IH2
    simp only at hj hzs hm'
    refine G.runE tm 100 ?_
    refine G.cond (decide ((40 - 8 * (j : Int)) ≥ 0)) (by kernel_rfl) (fun hc2 => ?_) (fun hc2 => ?_)
    · have hj6 : j < 6 := by simp at hc2; omega
      refine G.runE tm 100 ?_
      refine G.draw [] tm (by kernel_rfl) (by kernel_rfl) ?_
      refine GD.run (by kernel_rfl) 50 ?_
      refine GD.sem 7 (m := valS (Instr.loadAt 3 (.pointer (some ⟨pb, po, none⟩)))) (dst := some 31) (g := none) (by kernel_rfl) (by kernel_rfl) (.int .i64 n) (.atom (.int .i64 n)) (fun _ _ => rfl) (says_of fun w hw => run_valS (hp.load hw)) ?_
      refine GD.run (by kernel_rfl) 50 ?_
      refine GD.sem 10 (m := valS (do eqGuard .shr 3 (.tmp 32) (.tmp 33) (.int .i64 (IntKind.i64.wrap (n + 1))) (.int .i64 (40 - 8 * (j : Int))); binOp .shr 3 (.int .i64 (IntKind.i64.wrap (n + 1))) (.int .i64 (40 - 8 * (j : Int))))) (dst := some 34) (g := none) (by kernel_rfl) (by kernel_rfl)
        (.int .i64 (IntKind.i64.wrap (n + 1) / 2 ^ (40 - 8 * j))) (.atom (.int .i64 (IntKind.i64.wrap (n + 1) / 2 ^ (40 - 8 * j)))) (fun _ _ => rfl)
        (says_of fun w _ => run_valS (run_shr _ _ _ _ (m := 40 - 8 * j) (by omega) (by omega) w)) ?_
      refine GD.run (by kernel_rfl) 50 ?_
      refine GD.two 4 12 (by kernel_rfl) (GDop.eff (by kernel_rfl) ?_) (GDop.eff (by kernel_rfl) ?_)
      all_goals
        refine GD.run (by kernel_rfl) 50 ?_
        refine GD.one 13 (by kernel_rfl) (GDop.appLit (T := 40) (v := u') (m := m') (xs := zs) (kx := 1) (q := 1) (q' := 1) (d := some 37) el40 0 (by kernel_rfl) (by kernel_rfl) (by kernel_rfl) (bi := none) (e' := 5)
          (cs := [.int .u8 (IntKind.u8.wrap (IntKind.i64.wrap (n + 1) / 2 ^ (40 - 8 * j)))]) (by kernel_rfl) (news := [byteV n j]) (by kernel_rfl) rfl (by omega) (by omega) fun u'' _ => ?_)
        refine GD.run (by kernel_rfl) 50 ?_
        refine GD.fin (by kernel_rfl) ?_
        refine G.runE tm 100 ?_
        refine G.reint (k := .i64) (a := IntKind.i64.wrap (40 - 8 * (j : Int) - 8)) (b := 40 - 8 * ((j + 1 : Nat) : Int)) 6 (by kernel_rfl) ?_ ?_
        · rw [IntWalk.i64_in _ (by omega)]; omega
        refine G.back (by kernel_rfl) [0, 5, 6, 10, 11, 12] [0] 1 [0] (by kernel_rfl) (by kernel_rfl) (IH2 (j + 1, u'', zs ++ [byteV n j], m' + 1) _ ⟨rfl, hj6, ?_, by simp only; omega⟩ (by simp only; omega))
        rw [numV_succ n hj6, hzs, List.append_assoc]
    · obtain rfl : j = 6 := by simp at hc2; omega
      refine G.runE tm 100 ?_
      refine G.reint (k := .i64) 12 (by kernel_rfl) (wrap_succ hlt hl.len) ?_
      refine G.back (by kernel_rfl) [0, 10, 11, 12] [0] 1 [0] (by kernel_rfl) (by kernel_rfl) (IH (i + 1, u', zs, m') _ ⟨rfl, hlt, ?_, ?_⟩ (by simp only; omega))
      · rw [List.take_of_length_le (by rw [numV_len]; omega : (numV n).length ≤ 6)] at hzs; simp only; rw [flat_succ hnx, hzs, hys, List.append_assoc]
      · simp only; rw [hzs, List.length_append, List.length_take, numV_len, ← hml]; omega
  · obtain rfl : i = l.length := by simp at hc; omega
    refine G.runE tm 100 ?_
    rw [List.take_length] at hys
    subst hys
    subst hml
    exact G.retM (codM b v xs) Try.func118 Try.results118 (.tuple #[]) (by kernel_rfl) rfl (codM b u (xs ++ l.flatMap numV)) (nb := 1) (no := 1) (by kernel_rfl) (by kernel_rfl) rfl fun w' hg => ⟨u, rfl, hg⟩
end num
end Go.Proofs.Ytkjahaoobdbffaa

/- The codec as a writer: counts, texts, rules. -/
namespace Go.Proofs.Ytkjahaoobdbffaa
open Go Go.RowKit
attribute [local irreducible] G GD GDop

theorem st40 : StrT Try.prog 40 9 5 := .of Try.underlying40 Try.underlying9 (by kernel_rfl)

/-- A cell that points to a number that is known and not written. -/
def PtrCell (h : GH) (boxes : List (Nat × Box)) (ro : List Nat) : Cell → Int → Prop
  | .ptr k off, x => k ∈ ro ∧ ∃ b T cs, bx k boxes = some ⟨b, .lit T cs⟩ ∧ cs[off]? = some (.int .i64 x)
  | .raw (.pointer (some ⟨b, off, none⟩)), x => ∃ arr T fr, h b = some (.cells arr T fr) ∧ arr[off]? = some (.int .i64 x)
  | _, _ => False

def PtrCells (h : GH) (boxes : List (Nat × Box)) (ro : List Nat) : List Cell → List Int → Prop
  | [], [] => True
  | c :: cs, x :: xs => PtrCell h boxes ro c x ∧ PtrCells h boxes ro cs xs
  | _, _ => False

section ptrs
variable {hE : GH} {w0 : World} {inc : List Nat} {n : Nat} {s : S} {h : GH} {β : Nat → Nat} {w : World} {tmps : Array Value}

theorem PtrCells.len {boxes : List (Nat × Box)} {ro : List Nat} : ∀ {cs : List Cell} {l : List Int}, PtrCells h boxes ro cs l → cs.length = l.length := by
  intro cs
  induction cs with
  | nil => intro l hp; cases l <;> simp_all [PtrCells]
  | cons c cs ih =>
    intro l hp
    cases l with
    | nil => simp [PtrCells] at hp
    | cons x l => simp [ih hp.2]

theorem Sim.ptrCells (hS : Sim hE w0 inc n s h β w tmps) {ro : List Nat} : ∀ {cs : List Cell} {l : List Int} {vs : List Value}, PtrCells h s.boxes ro cs l → CellsOk s.nb β cs vs → ∀ (i : Nat) (x : Int), l[i]? = some x → ∃ u, vs[i]? = some u ∧ PtrR (roH h β w ro) [u] x := by
  intro cs
  induction cs with
  | nil => intro l vs hp hc i x hx; cases l <;> simp_all [PtrCells]
  | cons c cs ih =>
    intro l vs hp hc i x hx
    cases l with
    | nil => simp [PtrCells] at hp
    | cons y l =>
      cases vs with
      | nil => simp [CellsOk] at hc
      | cons v vs =>
        cases i with
        | succ i => simpa using ih hp.2 hc.2 i x (by simpa using hx)
        | zero =>
          simp at hx; subst hx
          refine ⟨v, by simp, ?_⟩
          have h1 := hp.1
          have h2 := hc.1
          unfold PtrCell at h1
          split at h1
          · rename_i x k off
            obtain ⟨hk, b, T, ds, h3, h4⟩ := h1
            obtain ⟨rfl, -⟩ := h2
            obtain ⟨arr, h5, h6⟩ := hS.box k _ h3
            obtain ⟨u, h7, h8⟩ := h6.get h4
            refine ⟨β k, off, arr, T, (0, 0), rfl, by rw [roH_ro hk]; exact h5, ?_⟩
            simp only [CellOk] at h8
            subst h8
            simpa using h7
          · rename_i x b off
            obtain ⟨arr, T, fr, h3, h4⟩ := h1
            obtain ⟨rfl, -⟩ := h2
            exact ⟨b, off, arr, T, fr, rfl, hS.roLe ro _ _ h3, h4⟩
          · exact h1.elim

theorem Sim.ptrs (hS : Sim hE w0 inc n s h β w tmps) {ro : List Nat} {q : Nat} {bi : Option Nat} {T : TypeId} {cs : List Cell} {l : List Int} (hb : bx q s.boxes = some ⟨bi, .lit T cs⟩) (hq : q ∈ ro) (hp : PtrCells h s.boxes ro cs l) (hl : l.length ≤ 1000) :
    SlR (roH h β w ro) 1 (PtrR (roH h β w ro)) (.slice (some ⟨β q, 0, none⟩) l.length l.length) l := by
  obtain ⟨arr, h1, h2⟩ := hS.box q _ hb
  have hlen := h2.length
  have hlen' := hp.len
  simp at hlen
  refine ⟨_, _, rfl, Nat.le_refl _, by omega, .inr ⟨β q, 0, arr, T, (0, 0), rfl, by rw [roH_ro hq]; exact h1, by omega, fun i x hx => ?_⟩⟩
  obtain ⟨u, h3, h4⟩ := hS.ptrCells hp h2 i x hx
  have : (arr.toList.drop (0 + i * 1)).take 1 = [u] := by
    rw [show 0 + i * 1 = i by omega]
    have hi := (List.getElem?_eq_some_iff.1 h3)
    obtain ⟨hi, rfl⟩ := hi
    rw [List.drop_eq_getElem_cons hi]; simp
  rw [this]; exact h4
end ptrs

theorem Sim.hideRo {hE : GH} {w0 : World} {inc : List Nat} {n : Nat} {s : S} {h : GH} {β : Nat → Nat} {w : World} {tmps : Array Value} (hS : Sim hE w0 inc n s h β w tmps) {ro : List Nat} (hro : keysIn ro s.boxes = true) : hideH β ro (roH h β w ro) = h := by
  funext b
  unfold hideH roH
  by_cases hr : (ro.any fun k => Nat.beq (β k) b) = true
  · simp only [if_pos hr]
    obtain ⟨k, hk1, hk2⟩ := List.any_eq_true.1 hr
    obtain ⟨c, hc⟩ := Option.isSome_iff_exists.1 (List.all_eq_true.1 hro k hk1)
    have := hS.gno k c hc
    rw [Nat.eq_of_beq_eq_true hk2] at this; exact this.symm
  · simp only [if_neg hr]

theorem mk_wrote {h : GH} {w w' : World} {b n' : Nat} {v v' : Value} {xs zs ys : List Value} (hg : Mend h w (codM b v xs) h w' ⟨[(b, codB v' n')], [⟨5, 1, v', n', ys⟩]⟩) (hn : n' = (xs ++ zs).length) (hy : ys = xs ++ zs) : Mend h w (codM b v xs) h w' (codM b v' (xs ++ zs)) := by
  subst hn hy; exact hg

/-- What such a call leaves: zs written behind, r answered. -/
def Wrote1 (h : GH) (w : World) (b : Nat) (v : Value) (xs zs : List Value) (r : Value) (e : Ending) (w' : World) : Prop :=
  ∃ v', e = .returned r ∧ Mend h w (codM b v xs) h w' (codM b v' (xs ++ zs))

theorem Wrote.one {h : GH} {w : World} {b : Nat} {v : Value} {xs zs : List Value} {e : Ending} {w' : World} (hw : Wrote h w b v xs zs e w') : Wrote1 h w b v xs zs (.tuple #[]) e w' := hw

def codIn (s : S) (kc ko : Nat) (ro : List Nat) : Bool := handOk s [kc] [ko] ro

/-- **A call that writes behind what is written**, as a whole. -/
theorem G.callW {C : Ctx} {h : GH} {c : Cfg} {f : FuncId} {svs : List SV1} {d : Option Nat} (kc ko : Nat) (ro : List Nat) (hc : callView c = some ⟨f, svs, d, none⟩) (he : enters C.P f = true) (hd : dstOk C.n d = true) {v : Value} {n : Nat} {xs : List Value}
    (hb : pickB c.s.boxes [kc] = some [codB v n]) (ho : pickO c.s.owns [ko] = some [⟨5, 1, v, n, xs⟩]) (hh : handOk c.s [kc] [ko] ro = true) (hn : n = xs.length) {zs : List Value} {r : Value} {n' : Nat} (hn' : n' = n + zs.length)
    (hcall : ∀ β w tmps l, Sim C.hE C.w0 C.inc C.n c.s h β w tmps → SV1sOk c.s.nb β svs l → Sub (roH h β w ro) w → MemOk (roH h β w ro) w (codM (β kc) v xs) → Calls C.P f l.toArray w (Wrote1 (roH h β w ro) w (β kc) v xs zs r))
    (hk : ∀ v', G C h (afterOp (withS c (putMem c.s [kc] [ko] [codB v' n'] [⟨5, 1, v', n', xs ++ zs⟩])) (.ofV r))) : G C h c := by
  subst hn
  subst hn'
  refine G.callM [kc] [ko] ro hc he hd hb ho hh (fun h' r' bs' os' => h' = h ∧ r' = r ∧ ∃ v', bs' = [codB v' (xs.length + zs.length)] ∧ os' = [⟨5, 1, v', xs.length + zs.length, xs ++ zs⟩]) (fun β w tmps l hS hl hsub hmem => ?_) ?_
  · refine (hcall β w tmps l hS hl hsub hmem).mono ?_
    rintro e w' ⟨v', rfl, hm⟩
    simp only [handOk, Bool.and_eq_true] at hh
    refine ⟨r, _, _, _, rfl, rfl, rfl, ?_, hS.hideRo hh.1.2, rfl, v', rfl, rfl⟩
    simp only [codM, List.length_append] at hm
    exact hm
  · rintro h' r' bs' os' ⟨rfl, rfl, v', rfl, rfl⟩ -
    exact ⟨_, fun N β tmps => SVofV_ok N β tmps _, hk v'⟩

theorem GDop.callW {C : Ctx} {h0 h : GH} {ops : Array Oper} {k : List Item} {kl : List Nat} {c : DCfg} {i : Nat} {f : FuncId} {svs : List SV1} {d : Option Nat} (kc ko : Nat) (ro : List Nat) (hc : callAtD ops c i = some ⟨f, svs, d, none⟩) (he : enters C.P f = true) (hd : dstOk C.n d = true) {v : Value} {n : Nat} {xs : List Value}
    (hb : pickB c.s.boxes [kc] = some [codB v n]) (ho : pickO c.s.owns [ko] = some [⟨5, 1, v, n, xs⟩]) (hh : handOk c.s [kc] [ko] ro = true) (hlv : liveAll kl c.s = true) (hdk : disj kl [kc] = true) (hn : n = xs.length) {zs : List Value} {r : Value} {n' : Nat} (hn' : n' = n + zs.length)
    (hcall : ∀ β w tmps l, Sim C.hE C.w0 C.inc C.n c.s h β w tmps → SV1sOk c.s.nb β svs l → Sub (roH h β w ro) w → MemOk (roH h β w ro) w (codM (β kc) v xs) → Calls C.P f l.toArray w (Wrote1 (roH h β w ro) w (β kc) v xs zs r))
    (hk : ∀ v', GD C h0 h ops k kl (afterN ops c i (putMem c.s [kc] [ko] [codB v' n'] [⟨5, 1, v', n', xs ++ zs⟩]) (.ofV r))) : GDop C h0 h ops k kl c i := by
  subst hn
  subst hn'
  refine GDop.callM [kc] [ko] ro hc he hd hb ho hh hlv hdk (fun h' r' bs' os' => h' = h ∧ r' = r ∧ ∃ v', bs' = [codB v' (xs.length + zs.length)] ∧ os' = [⟨5, 1, v', xs.length + zs.length, xs ++ zs⟩]) (fun β w tmps l hS hl hsub hmem => ?_) ?_
  · refine (hcall β w tmps l hS hl hsub hmem).mono ?_
    rintro e w' ⟨v', rfl, hm⟩
    simp only [handOk, Bool.and_eq_true] at hh
    refine ⟨r, _, _, _, rfl, rfl, rfl, ?_, hS.hideRo hh.1.2, rfl, v', rfl, rfl⟩
    simp only [codM, List.length_append] at hm
    exact hm
  · rintro h' r' bs' os' ⟨rfl, rfl, v', rfl, rfl⟩ -
    exact ⟨_, fun N β tmps => SVofV_ok N β tmps _, hk v'⟩

section args
variable {N : Nat} {β : Nat → Nat}
theorem args1 {a : SV1} {l : List Value} (h : SV1sOk N β [a] l) : ∃ x, l = [x] ∧ SV1Ok N β a x := by
  match l, h with
  | [x], h => exact ⟨x, rfl, h.1⟩
theorem args2 {a b : SV1} {l : List Value} (h : SV1sOk N β [a, b] l) : ∃ x y, l = [x, y] ∧ SV1Ok N β a x ∧ SV1Ok N β b y := by
  match l, h with
  | [x, y], h => exact ⟨x, y, rfl, h.1, h.2.1⟩
theorem args3 {a b c : SV1} {l : List Value} (h : SV1sOk N β [a, b, c] l) : ∃ x y z, l = [x, y, z] ∧ SV1Ok N β a x ∧ SV1Ok N β b y ∧ SV1Ok N β c z := by
  match l, h with
  | [x, y, z], h => exact ⟨x, y, z, rfl, h.1, h.2.1, h.2.2.1⟩
theorem args4 {a b c d : SV1} {l : List Value} (h : SV1sOk N β [a, b, c, d] l) : ∃ x y z u, l = [x, y, z, u] ∧ SV1Ok N β a x ∧ SV1Ok N β b y ∧ SV1Ok N β c z ∧ SV1Ok N β d u := by
  match l, h with
  | [x, y, z, u], h => exact ⟨x, y, z, u, rfl, h.1, h.2.1, h.2.2.1, h.2.2.2.1⟩
end args

theorem run_quo {T : TypeId} (x y : Operand) (a k : Int) (hk : 0 < k) (w : World) :
    (do eqGuard .quo T x y (.int .i64 a) (.int .i64 k); binOp .quo T (.int .i64 a) (.int .i64 k)).run Try.prog w = .ok (.int .i64 (IntKind.i64.wrap (a.tdiv k))) w := by
  have h0 : ¬ k = 0 := by omega
  simp [run_eqGuard_int, binOp, Op.intDiv, h0]

section w
variable {h : GH} {w : World}

theorem f144_ok {b : Nat} {v : Value} {xs : List Value} {n k : Int} (hk : 0 < k) (hm : MemOk h w (codM b v xs)) (hs : Sub h w) (hn : xs.length + 6 ≤ 140737488351232) :
    Calls Try.prog 144 #[.pointer (some ⟨b, 0, none⟩), .int .i64 n, .int .i64 k] w (Wrote1 h w b v xs (numV n) (.int .i64 n)) := by
  refine Calls.enterM (codM b v xs) [.atom (.ptr 0 0), .atom (.int .i64 n), .atom (.int .i64 k)] Try.func144 (c := bodyOf Try.f144) (by kernel_rfl) Try.ntmps144 (by kernel_rfl) hm ⟨⟨rfl, Nat.zero_lt_one⟩, rfl, rfl, trivial⟩ (by simp) hs ?_
  refine G.runE tm 100 ?_
  refine G.callW 0 0 [1, 2] (f := 118) (svs := [.atom (.ptr 0 0), .atom (.bsl 2 0 1 1)]) (d := some 9) (by kernel_rfl) (by kernel_rfl) (by kernel_rfl) (v := v) (n := xs.length) (xs := xs) (by kernel_rfl) (by kernel_rfl) (by kernel_rfl) rfl
    (zs := numV n) (r := .tuple #[]) (n' := xs.length + 6) (by rw [numV_len]) (fun β w tmps l hS hl hsub hmem => ?_) fun v' => ?_
  · obtain ⟨a1, a2, rfl, ⟨rfl, -⟩, ⟨rfl, -⟩⟩ := args2 hl
    have h1 := hS.ptrs (ro := [1, 2]) (q := 2) (bi := none) (T := 171) (cs := [.ptr 1 0]) (l := [n]) (by kernel_rfl) (by simp) ⟨⟨by simp, none, 3, [.int .i64 n], by kernel_rfl, rfl⟩, trivial⟩ (by simp)
    have h2 := f118_ok (v := v) (xs := xs) h1 hmem hsub (by simpa using hn)
    rw [show [n].flatMap numV = numV n by simp] at h2
    exact h2
  refine G.runE tm 100 ?_
  refine G.draw [0, 1] tm (by kernel_rfl) (by kernel_rfl) ?_
  refine GD.run (by kernel_rfl) 50 ?_
  refine GD.sem 27 (m := valS (do eqGuard .quo 3 (.tmp 35) (.tmp 36) (.int .i64 (IntKind.i64.wrap (((xs.length + 6 : Nat) : Int) - 0))) (.int .i64 k); binOp .quo 3 (.int .i64 (IntKind.i64.wrap (((xs.length + 6 : Nat) : Int) - 0))) (.int .i64 k))) (dst := some 37) (g := some (24, false)) (by kernel_rfl) (by kernel_rfl)
    (.int .i64 (IntKind.i64.wrap ((IntKind.i64.wrap (((xs.length + 6 : Nat) : Int) - 0)).tdiv k))) (.atom (.int .i64 (IntKind.i64.wrap ((IntKind.i64.wrap (((xs.length + 6 : Nat) : Int) - 0)).tdiv k)))) (fun _ _ => rfl)
    (says_of fun w _ => run_valS (run_quo _ _ _ _ hk w)) ?_
  refine GD.run (by kernel_rfl) 50 ?_
  refine GD.fin (by kernel_rfl) ?_
  refine G.runE tm 100 ?_
  refine G.condF (b := false) (by kernel_rfl) rfl ?_
  refine G.runE tm 100 ?_
  exact G.retM (codM b v xs) Try.func144 Try.results144 (.int .i64 n) (by kernel_rfl) rfl ⟨[(b, codB v' (xs.length + 6))], [⟨5, 1, v', xs.length + 6, xs ++ numV n⟩]⟩ (nb := 1) (no := 1) (by kernel_rfl) (by kernel_rfl) rfl fun w' hg =>
    ⟨v', rfl, mk_wrote hg (by rw [List.length_append, numV_len]) rfl⟩

def textV (t : ByteArray) : List Value := numV t.size ++ Lib.strCells t
theorem textV_len (t : ByteArray) : (textV t).length = 6 + t.size := by simp [textV, numV_len, Lib.strCells_length]

theorem load9 {pb off : Nat} {arr : Array Value} {T : TypeId} {fr : Nat × Nat} {t : ByteArray} (hp : h pb = some (.cells arr T fr)) (ht : arr[off]? = some (.string t)) (hs : Sub h w) : (Instr.loadAt 9 (.pointer (some ⟨pb, off, none⟩))).run Try.prog w = .ok (.string t) w := by
  have : w.cell? ⟨pb, off, none⟩ = some (.string t) := by rw [cell_of_heap (hs _ _ hp)]; exact ht
  simp [Instr.loadAt, Instr.sureAddr, loadVar, run_isAggP Try.underlying9, isAggD, this]

theorem f151_ok {b : Nat} {v : Value} {xs : List Value} {pb off : Nat} {arr : Array Value} {T : TypeId} {fr : Nat × Nat} {t : ByteArray} (hp : h pb = some (.cells arr T fr)) (ht : arr[off]? = some (.string t)) (hm : MemOk h w (codM b v xs)) (hs : Sub h w) (hn : xs.length + 6 + t.size ≤ 140737488351232) :
    Calls Try.prog 151 #[.pointer (some ⟨b, 0, none⟩), .pointer (some ⟨pb, off, none⟩)] w (Wrote h w b v xs (textV t)) := by
  refine Calls.enterM (codM b v xs) [.atom (.ptr 0 0), .atom (.raw (.pointer (some ⟨pb, off, none⟩)))] Try.func151 (c := bodyOf Try.f151) (by kernel_rfl) Try.ntmps151 (by kernel_rfl) hm ⟨⟨rfl, Nat.zero_lt_one⟩, ⟨rfl, rfl⟩, trivial⟩ (by simp) hs ?_
  refine G.runE tm 100 ?_
  refine G.sem (m := valS (Instr.loadAt 9 (.pointer (some ⟨pb, off, none⟩)))) (d := some 8) (g := none) (by kernel_rfl) (by kernel_rfl) (.string t) (.atom (.str t)) (fun _ _ => rfl) (says_of fun w hw => run_valS (load9 hp ht hw)) ?_
  refine G.runE tm 100 ?_
  refine G.callW 0 0 [] (f := 144) (svs := [.atom (.ptr 0 0), .atom (.int .i64 t.size), .atom (.int .i64 1)]) (d := some 10) (by kernel_rfl) (by kernel_rfl) (by kernel_rfl) (v := v) (n := xs.length) (xs := xs) (by kernel_rfl) (by kernel_rfl) (by kernel_rfl) rfl
    (zs := numV t.size) (r := .int .i64 t.size) (n' := xs.length + 6) (by rw [numV_len]) (fun β w tmps l hS hl hsub hmem => ?_) fun v' => ?_
  · obtain ⟨a1, a2, a3, rfl, ⟨rfl, -⟩, rfl, rfl⟩ := args3 hl
    exact f144_ok (by decide) hmem hsub (by omega)
  refine G.runE tm 100 ?_
  refine G.condT (b := true) (by kernel_rfl) rfl ?_
  refine G.runE tm 100 ?_
  refine G.draw [] tm (by kernel_rfl) (by kernel_rfl) ?_
  refine GD.run (by kernel_rfl) 50 ?_
  refine GD.sem 7 (m := valS (Instr.loadAt 9 (.pointer (some ⟨pb, off, none⟩)))) (dst := some 22) (g := none) (by kernel_rfl) (by kernel_rfl) (.string t) (.atom (.str t)) (fun _ _ => rfl) (says_of fun w hw => run_valS (load9 hp ht hw)) ?_
  refine GD.run (by kernel_rfl) 50 ?_
  refine GD.one 8 (by kernel_rfl) (GDop.appStr (T := 40) (U := 9) (v := v') (m := xs.length + 6) (xs := xs ++ numV t.size) (b := t) (d := some 23) st40 0 (by kernel_rfl) (by kernel_rfl) (by kernel_rfl) hn fun v'' => ?_)
  refine GD.run (by kernel_rfl) 50 ?_
  refine GD.fin (by kernel_rfl) ?_
  refine G.runE tm 100 ?_
  exact G.retM (codM b v xs) Try.func151 Try.results151 (.tuple #[]) (by kernel_rfl) rfl ⟨[(b, codB v'' (xs.length + 6 + t.size))], [⟨5, 1, v'', xs.length + 6 + t.size, (xs ++ numV t.size) ++ Lib.strCells t⟩]⟩ (nb := 1) (no := 1) (by kernel_rfl) (by kernel_rfl) rfl fun w' hg =>
    ⟨v'', rfl, mk_wrote hg (by rw [List.length_append, textV_len]; omega) (by simp only [textV, List.append_assoc])⟩

def rulB (r : Rul) : List Value := [r.id, r.pri, r.act, r.sco].flatMap numV ++ textV r.pat
theorem rulB_len (r : Rul) : (rulB r).length = 30 + r.pat.size := by simp only [rulB, List.length_append, flat_len, textV_len, List.length_cons, List.length_nil]; omega
def rulA (r : Rul) : Array Value := #[.int .i64 r.id, .int .i64 r.pri, .int .i64 r.act, .int .i64 r.sco, .string r.pat]

theorem f146_ok {b : Nat} {v : Value} {xs : List Value} {rb : Nat} {T : TypeId} {fr : Nat × Nat} {r : Rul} (hp : h rb = some (.cells (rulA r) T fr)) (hm : MemOk h w (codM b v xs)) (hs : Sub h w) (hn : xs.length + (rulB r).length ≤ 140737488351232) :
    Calls Try.prog 146 #[.pointer (some ⟨b, 0, none⟩), .pointer (some ⟨rb, 0, none⟩)] w (Wrote h w b v xs (rulB r)) := by
  rw [rulB_len] at hn
  refine Calls.enterM (codM b v xs) [.atom (.ptr 0 0), .atom (.raw (.pointer (some ⟨rb, 0, none⟩)))] Try.func146 (c := bodyOf Try.f146) (by kernel_rfl) Try.ntmps146 (by kernel_rfl) hm ⟨⟨rfl, Nat.zero_lt_one⟩, ⟨rfl, rfl⟩, trivial⟩ (by simp) hs ?_
  refine G.runE tm 100 ?_
  refine G.draw [] tm (by kernel_rfl) (by kernel_rfl) ?_
  refine GD.run (by kernel_rfl) 50 ?_
  refine GD.one 14 (by kernel_rfl) (GDop.callW 0 0 [1] (f := 118) (svs := [.atom (.ptr 0 0), .atom (.bsl 1 0 4 4)]) (d := some 18) (by kernel_rfl) (by kernel_rfl) (by kernel_rfl) (v := v) (n := xs.length) (xs := xs) (by kernel_rfl) (by kernel_rfl) (by kernel_rfl) (by kernel_rfl) (by kernel_rfl) rfl
    (zs := [r.id, r.pri, r.act, r.sco].flatMap numV) (r := .tuple #[]) (n' := xs.length + 24) (by rw [flat_len]; rfl) (fun β w tmps l hS hl hsub hmem => ?_) fun v' => ?_)
  · obtain ⟨a1, a2, rfl, ⟨rfl, -⟩, ⟨rfl, -⟩⟩ := args2 hl
    have h1 := hS.ptrs (ro := [1]) (q := 1) (bi := none) (T := 171) (cs := [.raw (.pointer (some ⟨rb, 0, none⟩)), .raw (.pointer (some ⟨rb, 1, none⟩)), .raw (.pointer (some ⟨rb, 2, none⟩)), .raw (.pointer (some ⟨rb, 3, none⟩))]) (l := [r.id, r.pri, r.act, r.sco]) (by kernel_rfl) (by simp)
      ⟨⟨_, _, _, hp, rfl⟩, ⟨_, _, _, hp, rfl⟩, ⟨_, _, _, hp, rfl⟩, ⟨_, _, _, hp, rfl⟩, trivial⟩ (by simp)
    exact f118_ok (v := v) (xs := xs) h1 hmem hsub (by simp only [List.length_cons, List.length_nil]; omega)
  refine GD.run (by kernel_rfl) 50 ?_
  refine GD.fin (by kernel_rfl) ?_
  refine G.runE tm 100 ?_
  refine G.callW 0 0 [] (f := 151) (svs := [.atom (.ptr 0 0), .atom (.raw (.pointer (some ⟨rb, 4, none⟩)))]) (d := some 23) (by kernel_rfl) (by kernel_rfl) (by kernel_rfl) (v := v') (n := xs.length + 24) (xs := xs ++ [r.id, r.pri, r.act, r.sco].flatMap numV) (by kernel_rfl) (by kernel_rfl) (by kernel_rfl) (by rw [List.length_append, flat_len]; rfl)
    (zs := textV r.pat) (r := .tuple #[]) (n' := xs.length + 30 + r.pat.size) (by rw [textV_len]; omega) (fun β w tmps l hS hl hsub hmem => ?_) fun v'' => ?_
  · obtain ⟨a1, a2, rfl, ⟨rfl, -⟩, ⟨rfl, -⟩⟩ := args2 hl
    exact f151_ok (hS.roLe [] _ _ hp) rfl hmem hsub (by rw [List.length_append, flat_len]; simp only [List.length_cons, List.length_nil]; omega)
  refine G.runE tm 100 ?_
  exact G.retM (codM b v xs) Try.func146 Try.results146 (.tuple #[]) (by kernel_rfl) rfl ⟨[(b, codB v'' (xs.length + 30 + r.pat.size))], [⟨5, 1, v'', xs.length + 30 + r.pat.size, (xs ++ [r.id, r.pri, r.act, r.sco].flatMap numV) ++ textV r.pat⟩]⟩ (nb := 1) (no := 1) (by kernel_rfl) (by kernel_rfl) rfl fun w' hg =>
    ⟨v'', rfl, mk_wrote hg (by rw [List.length_append, rulB_len]; omega) (by simp only [rulB, List.append_assoc])⟩
end w
end Go.Proofs.Ytkjahaoobdbffaa

/- The codec as a writer: lists, entries, messages. -/
namespace Go.Proofs.Ytkjahaoobdbffaa
open Go Go.RowKit
attribute [local irreducible] G GD GDop

theorem flat_snoc {α : Type} {f : α → List Value} {l : List α} {i : Nat} {x : α} (h : l[i]? = some x) : (l.take (i + 1)).flatMap f = (l.take i).flatMap f ++ f x := by
  rw [List.take_add_one, h]; simp

theorem flat_take_le {α : Type} {f : α → List Value} {l : List α} {i : Nat} {x : α} (h : l[i]? = some x) : ((l.take i).flatMap f).length + (f x).length ≤ (l.flatMap f).length := by
  have h1 : l.flatMap f = (l.take (i + 1)).flatMap f ++ (l.drop (i + 1)).flatMap f := by rw [← List.flatMap_append, List.take_append_drop]
  rw [h1, flat_snoc h]
  simp only [List.length_append]; omega

theorem Sim.roCells {hE : GH} {w0 : World} {inc : List Nat} {n : Nat} {s : S} {h : GH} {β : Nat → Nat} {w : World} {tmps : Array Value} (hS : Sim hE w0 inc n s h β w tmps) {ro : List Nat} {k : Nat} {bi : Option Nat} {T : TypeId} {cs : List Cell} {vs : List Value} (hb : bx k s.boxes = some ⟨bi, .lit T cs⟩) (hk : k ∈ ro) (hv : cellVals cs = some vs) :
    roH h β w ro (β k) = some (.cells vs.toArray T (0, 0)) := by
  rw [roH_ro hk]
  obtain ⟨arr, h1, h2⟩ := hS.box k _ hb
  rw [h1, ← cellVals_ok hv h2]

theorem Sim.key {hE : GH} {w0 : World} {inc : List Nat} {n : Nat} {s : S} {h : GH} {β : Nat → Nat} {w : World} {tmps : Array Value} (hS : Sim hE w0 inc n s h β w tmps) {k b : Nat} {x : BoxB} (hb : bx k s.boxes = some ⟨some b, x⟩) : β k = b := (hS.fresh k _ hb).1

section w
variable {h : GH} {w : World}

theorem loadCell {E : TypeId} {d : TypeDesc} (hd : Try.prog.underlying E = some d) (hag : isAggD d = false) {pb off : Nat} {arr : Array Value} {T : TypeId} {fr : Nat × Nat} {u : Value} (hp : h pb = some (.cells arr T fr)) (ht : arr[off]? = some u) (hs : Sub h w) :
    (Instr.loadAt E (.pointer (some ⟨pb, off, none⟩))).run Try.prog w = .ok u w := by
  have : w.cell? ⟨pb, off, none⟩ = some u := by rw [cell_of_heap (hs _ _ hp)]; exact ht
  simp [Instr.loadAt, Instr.sureAddr, loadVar, run_isAggP hd, hag, this]

theorem f148_ok {b cb ib : Nat} {v : Value} {xs : List Value} {x : Int} {T T' : TypeId} {fr fr' : Nat × Nat} (hi : h ib = some (.cells #[.int .i64 x] T fr)) (hc : h cb = some (.cells #[.pointer (some ⟨b, 0, none⟩)] T' fr')) (hm : MemOk h w (codM b v xs)) (hs : Sub h w) (hn : xs.length + 6 ≤ 140737488351232) :
    Calls Try.prog 148 #[.pointer (some ⟨ib, 0, none⟩), .pointer (some ⟨cb, 0, none⟩)] w (Wrote h w b v xs (numV x)) := by
  refine Calls.enterM (codM b v xs) [.atom (.raw (.pointer (some ⟨ib, 0, none⟩))), .atom (.raw (.pointer (some ⟨cb, 0, none⟩)))] Try.func148 (c := bodyOf Try.f148) (by kernel_rfl) Try.ntmps148 (by kernel_rfl) hm ⟨⟨rfl, rfl⟩, ⟨rfl, rfl⟩, trivial⟩ (by simp) hs ?_
  refine G.runE tm 100 ?_
  refine G.sem (m := valS (Instr.loadAt 125 (.pointer (some ⟨cb, 0, none⟩)))) (d := some 3) (g := none) (by kernel_rfl) (by kernel_rfl) (.pointer (some ⟨b, 0, none⟩)) (.atom (.raw (.pointer (some ⟨b, 0, none⟩)))) (fun _ _ => ⟨rfl, rfl⟩)
    (says_of fun w hw => run_valS (loadCell Try.underlying125 rfl hc rfl hw)) ?_
  refine G.toPtr 3 0 (b := b) (off := 0) (x := codB v xs.length) (by kernel_rfl) (by kernel_rfl) ?_
  refine G.runE tm 100 ?_
  refine G.callW 0 0 [1] (f := 118) (svs := [.atom (.ptr 0 0), .atom (.bsl 1 0 1 1)]) (d := some 6) (by kernel_rfl) (by kernel_rfl) (by kernel_rfl) (v := v) (n := xs.length) (xs := xs) (by kernel_rfl) (by kernel_rfl) (by kernel_rfl) rfl
    (zs := numV x) (r := .tuple #[]) (n' := xs.length + 6) (by rw [numV_len]) (fun β w tmps l hS hl hsub hmem => ?_) fun v' => ?_
  · obtain ⟨a1, a2, rfl, ⟨rfl, -⟩, ⟨rfl, -⟩⟩ := args2 hl
    have h1 := hS.ptrs (ro := [1]) (q := 1) (bi := none) (T := 171) (cs := [.raw (.pointer (some ⟨ib, 0, none⟩))]) (l := [x]) (by kernel_rfl) (by simp) ⟨⟨_, _, _, hi, rfl⟩, trivial⟩ (by simp)
    have h2 := f118_ok (v := v) (xs := xs) h1 hmem hsub (by simpa using hn)
    rw [show [x].flatMap numV = numV x by simp] at h2
    exact h2
  refine G.runE tm 100 ?_
  exact G.retM (codM b v xs) Try.func148 Try.results148 (.tuple #[]) (by kernel_rfl) rfl ⟨[(b, codB v' (xs.length + 6))], [⟨5, 1, v', xs.length + 6, xs ++ numV x⟩]⟩ (nb := 1) (no := 1) (by kernel_rfl) (by kernel_rfl) rfl fun w' hg =>
    ⟨v', rfl, mk_wrote hg (by rw [List.length_append, numV_len]) rfl⟩

/-- A list of numbers, written. -/
def intsB (l : List Int) : List Value := numV l.length ++ l.flatMap numV

theorem f147_ok {b cb sb so : Nat} {v lv : Value} {xs : List Value} {l : List Int} {k : Int} {arr : Array Value} {T T' : TypeId} {fr fr' : Nat × Nat} (hk : 0 < k) (hp : h sb = some (.cells arr T fr)) (ht : arr[so]? = some lv) (hl : SlR h 1 IntR lv l)
    (hc : h cb = some (.cells #[.pointer (some ⟨b, 0, none⟩)] T' fr')) (hm : MemOk h w (codM b v xs)) (hs : Sub h w) (hn : xs.length + (intsB l).length ≤ 140737488351232) :
    Calls Try.prog 147 #[.pointer (some ⟨b, 0, none⟩), .pointer (some ⟨sb, so, none⟩), .int .i64 k, .func (.func 148) #[] #[.pointer (some ⟨cb, 0, none⟩)]] w (Wrote h w b v xs (intsB l)) := by
  have hlen := hl.len
  rw [intsB, List.length_append, numV_len] at hn
  refine Calls.enterM (codM b v xs) [.atom (.ptr 0 0), .atom (.raw (.pointer (some ⟨sb, so, none⟩))), .atom (.int .i64 k), .atom (.raw (.func (.func 148) #[] #[.pointer (some ⟨cb, 0, none⟩)]))] Try.func147 (c := bodyOf Try.f147) (by kernel_rfl) Try.ntmps147 (by kernel_rfl) hm
    ⟨⟨rfl, Nat.zero_lt_one⟩, ⟨rfl, rfl⟩, rfl, ⟨rfl, rfl⟩, trivial⟩ (by simp) hs ?_
  refine G.runE tm 100 ?_
  refine G.sem (m := valS (Instr.loadAt 30 (.pointer (some ⟨sb, so, none⟩)))) (d := some 16) (g := none) (by kernel_rfl) (by kernel_rfl) lv (.atom (.sl lv l.length)) (hl.sv) (says_of fun w hw => run_valS (loadCell Try.underlying30 rfl hp ht hw)) ?_
  refine G.runE tm 100 ?_
  refine G.callW 0 0 [] (f := 144) (svs := [.atom (.ptr 0 0), .atom (.int .i64 l.length), .atom (.int .i64 k)]) (d := some 19) (by kernel_rfl) (by kernel_rfl) (by kernel_rfl) (v := v) (n := xs.length) (xs := xs) (by kernel_rfl) (by kernel_rfl) (by kernel_rfl) rfl
    (zs := numV l.length) (r := .int .i64 l.length) (n' := xs.length + 6) (by rw [numV_len]) (fun β w tmps l hS hl hsub hmem => ?_) fun v1 => ?_
  · obtain ⟨a1, a2, a3, rfl, ⟨rfl, -⟩, rfl, rfl⟩ := args3 hl
    exact f144_ok hk hmem hsub (by omega)
  refine G.runE tm 100 ?_
  refine G.condT (b := true) (by kernel_rfl) rfl ?_
  refine G.runE tm 100 ?_
  refine G.sem (m := valS (Instr.loadAt 30 (.pointer (some ⟨sb, so, none⟩)))) (d := some 26) (g := none) (by kernel_rfl) (by kernel_rfl) lv (.atom (.sl lv l.length)) (hl.sv) (says_of fun w hw => run_valS (loadCell Try.underlying30 rfl hp ht hw)) ?_
  refine G.runE tm 100 ?_
  refine G.loop (α := Nat × Value × List Value × Nat)
    (fun x => ⟨[(3, .one (.atom (.raw (.func (.func 148) #[] #[.pointer (some ⟨cb, 0, none⟩)])))), (26, .one (.atom (.sl lv l.length))), (27, .one (.atom (.int .i64 l.length))), (28, .one (.atom (.int .i64 x.1)))],
      [(0, ⟨some b, codB x.2.1 x.2.2.2⟩)], 1, [(0, ⟨5, 1, x.2.1, x.2.2.2, x.2.2.1⟩)]⟩)
    (fun x g => g = h ∧ x.1 ≤ l.length ∧ x.2.2.1 = xs ++ (numV l.length ++ (l.take x.1).flatMap numV) ∧ x.2.2.2 = x.2.2.1.length) (fun x => l.length - x.1) (0, v1, xs ++ numV l.length, xs.length + 6) [3, 26, 27, 28] [0] 1 [0] (by kernel_rfl) (by kernel_rfl) (by kernel_rfl)
      ⟨rfl, Nat.zero_le _, by simp, by simp [numV_len]⟩ ?_
  rintro ⟨i, u, ys, m⟩ g ⟨rfl, hi, hys, hml⟩ IH
  simp only at hi hys hml
  refine G.runE tm 100 ?_
  refine G.cond (decide ((i : Int) < (l.length : Int))) (by kernel_rfl) (fun hc1 => ?_) (fun hc1 => ?_)
  · have hlt : i < l.length := by simpa using hc1
    obtain ⟨x, hx⟩ := get_of_lt hlt
    have hbd := flat_take_le (f := numV) hx
    have hml2 : m = xs.length + 6 + ((l.take i).flatMap numV).length := by rw [hml, hys]; simp only [List.length_append, numV_len]; omega
    refine G.runE tm 100 ?_
    refine G.idx (d1 := some 30) (g := none) (T := 30) (E := 3) hl Try.underlying30 z3 hlt (by kernel_rfl) (by kernel_rfl) ?_
    refine G.elInt (d1 := some 31) (g := none) (E := 3) hl u3 hx (by kernel_rfl) (by kernel_rfl) ?_
    refine G.runE tm 100 ?_
    refine G.callW 0 0 [1] (f := 148) (svs := [.atom (.ptr 1 0), .atom (.raw (.pointer (some ⟨cb, 0, none⟩)))]) (d := some 33) (by kernel_rfl) (by kernel_rfl) (by kernel_rfl) (v := u) (n := m) (xs := ys) (by kernel_rfl) (by kernel_rfl) (by kernel_rfl) hml
      (zs := numV x) (r := .tuple #[]) (n' := m + (numV x).length) rfl (fun β w tmps l hS hl hsub hmem => ?_) fun v2 => ?_
    · obtain ⟨a1, a2, rfl, ⟨rfl, -⟩, ⟨rfl, -⟩⟩ := args2 hl
      have hβ : β 0 = b := hS.key (x := codB u m) (by kernel_rfl)
      rw [hβ] at hmem ⊢
      exact f148_ok (hS.roCells (ro := [1]) (k := 1) (bi := none) (T := 3) (cs := [.int .i64 x]) (vs := [.int .i64 x]) (by kernel_rfl) (by simp) rfl) (hS.roLe [1] _ _ hc) hmem hsub (by rw [← hml]; rw [numV_len] at hbd; omega)
    refine G.runE tm 100 ?_
    refine G.reint (k := .i64) 28 (by kernel_rfl) (wrap_succ hlt hlen) ?_
    refine G.back (by kernel_rfl) [3, 26, 27, 28] [0] 1 [0] (by kernel_rfl) (by kernel_rfl) (IH (i + 1, v2, ys ++ numV x, m + (numV x).length) _ ⟨rfl, hlt, ?_, ?_⟩ (by simp only; omega))
    · simp only; rw [flat_snoc hx, hys]; simp only [List.append_assoc]
    · simp only [List.length_append]; omega
  · obtain rfl : i = l.length := by simp at hc1; omega
    refine G.runE tm 100 ?_
    rw [List.take_length] at hys
    exact G.retM (codM b v xs) Try.func147 Try.results147 (.tuple #[]) (by kernel_rfl) rfl ⟨[(b, codB u m)], [⟨5, 1, u, m, ys⟩]⟩ (nb := 1) (no := 1) (by kernel_rfl) (by kernel_rfl) rfl fun w' hg =>
      ⟨u, rfl, mk_wrote hg (by rw [hml, hys]; rfl) hys⟩
end w
end Go.Proofs.Ytkjahaoobdbffaa
