/- What the functions that hold rules, entries and lists of entries against one another answer. -/
import Derived.Laws.StructEq
import Derived.Test.YtkjahaoobdbffaaK2
namespace Go.Proofs.Ytkjahaoobdbffaa
open Go Go.RowKit

attribute [local irreducible] G GD GDop

theorem bytes_beq (x y : ByteArray) : (x.toList == y.toList) = decide (x = y) := by
  rw [ByteArray.toList_eq, ByteArray.toList_eq]
  obtain ⟨⟨x⟩⟩ := x
  obtain ⟨⟨y⟩⟩ := y
  rw [Bool.eq_iff_iff]
  simp

theorem rulEq_run {T U : TypeId} (hT : Try.prog.underlying T = Try.prog.underlying U) (hp : Try.prog.stoodInHeld T = false) (hU : U = 114) (d : Nat) (a b : Rul) (w : World) :
    (Op.equalIn (d + 2) T (rulV a) (rulV b)).run Try.prog w = .ok (decide (a = b)) w := by
  subst hU
  have hu : Try.prog.underlying T = some (.struct (Try.prog.fieldsOf T)) := by
    unfold Program.fieldsOf; rw [hT, Try.underlying114]
  have hf : (Try.prog.fieldsOf T).toList = [{ name := "ID", type := 3, offset := 0, embedded := false, tag := "", pkgPath := "", byteOffset := 0 }, { name := "Priority", type := 3, offset := 1, embedded := false, tag := "", pkgPath := "", byteOffset := 8 },
      { name := "Action", type := 3, offset := 2, embedded := false, tag := "", pkgPath := "", byteOffset := 16 }, { name := "Scope", type := 3, offset := 3, embedded := false, tag := "", pkgPath := "", byteOffset := 24 },
      { name := "Pattern", type := 9, offset := 4, embedded := false, tag := "", pkgPath := "", byteOffset := 32 }] := by
    unfold Program.fieldsOf; rw [hT, Try.underlying114]
  have h3 : Try.prog.underlying 3 = some (.int .i64) := Try.underlying3
  have h9 : Try.prog.underlying 9 = some .string := Try.underlying9
  unfold rulV
  rw [run_equalIn_struct w (d + 1) T _ _ hu hp, hf]
  have i3 : (isAgg 3).run Try.prog w = .ok false w := run_isAggP h3 w
  have i9 : (isAgg 9).run Try.prog w = .ok false w := run_isAggP h9 w
  have e3 : ∀ x y : Int, (Op.equalIn (d + 1) 3 (.int .i64 x) (.int .i64 y)).run Try.prog w = .ok (x == y) w := fun x y => run_equalIn_int w d 3 _ _ x y h3
  have e9 : ∀ x y : ByteArray, (Op.equalIn (d + 1) 9 (.string x) (.string y)).run Try.prog w = .ok (decide (x = y)) w := fun x y => by rw [run_equalIn_string w d 9 x y h9, bytes_beq]
  obtain ⟨a1, a2, a3, a4, a5⟩ := a
  obtain ⟨b1, b2, b3, b4, b5⟩ := b
  have q3 : ∀ (xs : Array Value) (i : Nat), (part 3 xs i).run Try.prog w = (match xs[i]? with | some v => (pure v : Sem Value) | none => stuck "part: no such cell").run Try.prog w := by
    intro xs i; simp only [part, Sem.run_bind, i3, Result.andThen_ok, Bool.false_eq_true, if_false]; cases xs[i]? <;> rfl
  have q9 : ∀ (xs : Array Value) (i : Nat), (part 9 xs i).run Try.prog w = (match xs[i]? with | some v => (pure v : Sem Value) | none => stuck "part: no such cell").run Try.prog w := by
    intro xs i; simp only [part, Sem.run_bind, i9, Result.andThen_ok, Bool.false_eq_true, if_false]; cases xs[i]? <;> rfl
  simp [Op.eqFields, q3, q9, e3, e9]
  by_cases c1 : a1 = b1
  · by_cases c2 : a2 = b2
    · by_cases c3 : a3 = b3
      · by_cases c4 : a4 = b4
        · by_cases c5 : a5 = b5
          · simp [c1, c2, c3, c4, c5]
          · simp [c1, c2, c3, c4, c5]
        · simp [c1, c2, c3, c4]
      · simp [c1, c2, c3]
    · simp [c1, c2]
  · simp [c1]

/-- 'a != b' of rules. -/
theorem rulNeq_run {T : TypeId} (hT : Try.prog.underlying T = Try.prog.underlying 114) (hp : Try.prog.stoodInHeld T = false) (hg : Try.prog.eqGuardType Try.prog.depth T = false) (x y : Operand) (a b : Rul) (w : World) :
    (valS (do eqGuard .neq T x y (rulV a) (rulV b); binOp .neq T (rulV a) (rulV b))).run Try.prog w = .ok (.value (.bool (!decide (a = b)))) w := by
  refine run_valS ?_
  have h1 : (eqGuard .neq T x y (rulV a) (rulV b)).run Try.prog w = .ok () w := run_eqGuard_agg w .neq T x y _ _ hg
  have h2 := run_neq_struct (P := Try.prog) w T #[.int .i64 a.id, .int .i64 a.pri, .int .i64 a.act, .int .i64 a.sco, .string a.pat] #[.int .i64 b.id, .int .i64 b.pri, .int .i64 b.act, .int .i64 b.sco, .string b.pat]
  have h3 := rulEq_run hT hp rfl 9998 a b w
  simp only [Sem.run_bind, h1, Result.andThen_ok]
  exact h2.trans (by rw [show (Op.equalIn 10000 T (.agg #[.int .i64 a.id, .int .i64 a.pri, .int .i64 a.act, .int .i64 a.sco, .string a.pat]) (.agg #[.int .i64 b.id, .int .i64 b.pri, .int .i64 b.act, .int .i64 b.sco, .string b.pat])).run Try.prog w = .ok (decide (a = b)) w from h3]; rfl)

theorem g114 : Try.prog.eqGuardType Try.prog.depth 114 = false := by kernel_rfl
theorem g124 : Try.prog.eqGuardType Try.prog.depth 124 = false := by kernel_rfl
theorem s114 : Try.prog.stoodInHeld 114 = false := by kernel_rfl
theorem s124 : Try.prog.stoodInHeld 124 = false := by kernel_rfl
theorem t124 : Try.prog.underlying 124 = Try.prog.underlying 114 := by rw [Try.underlying124, Try.underlying114]

/-- Two lists are the same as far as looked at. -/
theorem eq_of_take {α : Type} {a b : List α} (hl : a.length = b.length) (h : a.take a.length = b.take a.length) : a = b := by
  rw [List.take_length] at h; rw [hl, List.take_length] at h; exact h

theorem take_eq_succ {α : Type} {a b : List α} {i : Nat} {x : α} (hx : a[i]? = some x) (hy : b[i]? = some x) (h : a.take i = b.take i) : a.take (i + 1) = b.take (i + 1) := by
  rw [List.take_add_one, List.take_add_one, hx, hy, h]

theorem ne_of_get {α : Type} {a b : List α} {i : Nat} {x y : α} (hx : a[i]? = some x) (hy : b[i]? = some y) (hne : x ≠ y) : a ≠ b := by
  rintro rfl; rw [hx] at hy; exact hne (by injection hy)

section eq
variable {h : GH} {w : World}

theorem f114_ok {va vb : Value} {a b : List Rul} (ha : SlR h 5 RulR va a) (hb : SlR h 5 RulR vb b) (hs : Sub h w) :
    Calls Try.prog 114 #[va, vb] w fun e w' => e = .returned (.bool (decide (a = b))) ∧ Below w.heap.size w w' := by
  have hlen := ha.len
  refine Calls.enter [.atom (.sl va a.length), .atom (.sl vb b.length)] Try.func114 (c := bodyOf Try.f114) (by kernel_rfl) Try.ntmps114 ⟨ha.sv _ _, hb.sv _ _, trivial⟩ (by simp) hs ?_
  refine G.runE tm 100 ?_
  refine G.cond ((a.length : Int) != (b.length : Int)) (by kernel_rfl) (fun hc => ?_) (fun hc => ?_)
  · refine G.runE tm 100 ?_
    refine G.ret Try.func114 Try.results114 (.bool false) (by kernel_rfl) fun w' hf _ => ⟨?_, hf.below⟩
    have : a ≠ b := by rintro rfl; simp at hc
    simp [this]
  have hll : a.length = b.length := by simp at hc; omega
  refine G.runE tm 100 ?_
  refine G.loop (α := Nat) (fun i => ⟨[(0, .one (.atom (.sl va a.length))), (1, .one (.atom (.sl vb b.length))), (12, .one (.atom (.int .i64 a.length))), (13, .one (.atom (.int .i64 i)))], [], 0, []⟩)
    (fun i g => g = h ∧ i ≤ a.length ∧ a.take i = b.take i) (fun i => a.length - i) 0 [0, 1, 12, 13] [] 0 [] (by kernel_rfl) (by kernel_rfl) (by kernel_rfl) ⟨rfl, Nat.zero_le _, by simp⟩ ?_
  rintro i g ⟨rfl, hi, hall⟩ IH
  refine G.runE tm 100 ?_
  refine G.cond (decide ((i : Int) < (a.length : Int))) (by kernel_rfl) (fun hc => ?_) (fun hc => ?_)
  · have hlt : i < a.length := by simpa using hc
    obtain ⟨x, hx⟩ := get_of_lt hlt
    obtain ⟨y, hy⟩ := get_of_lt (hll ▸ hlt : i < b.length)
    refine G.runE tm 100 ?_
    refine G.draw [] tm (by kernel_rfl) (by kernel_rfl) ?_
    refine GD.run (by kernel_rfl) 50 ?_
    refine GD.idx 2 (d1 := some 18) (g := none) (T := 29) (E := 114) ha Try.underlying29 z114 hlt (by kernel_rfl) (by kernel_rfl) ?_
    refine GD.elRul 3 (d1 := some 19) (g := none) (E := 114) ha z114 u114 hx (by kernel_rfl) (by kernel_rfl) ?_
    refine GD.idx 6 (d1 := some 22) (g := none) (T := 29) (E := 114) hb Try.underlying29 z114 (hll ▸ hlt) (by kernel_rfl) (by kernel_rfl) ?_
    refine GD.elRul 7 (d1 := some 23) (g := none) (E := 114) hb z114 u114 hy (by kernel_rfl) (by kernel_rfl) ?_
    refine GD.sem 8 (m := valS (do eqGuard .neq 114 (.tmp 19) (.tmp 23) (rulV x) (rulV y); binOp .neq 114 (rulV x) (rulV y))) (dst := some 24) (g := none) (by kernel_rfl) (by kernel_rfl) (.bool (!decide (x = y))) (.atom (.bool (!decide (x = y)))) (fun _ _ => rfl)
      (says_of fun w _ => rulNeq_run rfl s114 g114 _ _ x y w) ?_
    refine GD.fin (by kernel_rfl) ?_
    refine G.runE tm 100 ?_
    refine G.cond (!decide (x = y)) (by kernel_rfl) (fun hc => ?_) (fun hc => ?_)
    · refine G.runE tm 100 ?_
      refine G.ret Try.func114 Try.results114 (.bool false) (by kernel_rfl) fun w' hf _ => ⟨?_, hf.below⟩
      have : a ≠ b := ne_of_get hx hy (by simpa using hc)
      simp [this]
    · obtain rfl : x = y := by simpa using hc
      refine G.runE tm 100 ?_
      refine G.reint (k := .i64) 13 (by kernel_rfl) (wrap_succ hlt hlen) ?_
      exact G.back (by kernel_rfl) [0, 1, 12, 13] [] 0 [] (by kernel_rfl) (by kernel_rfl) (IH (i + 1) _ ⟨rfl, hlt, take_eq_succ hx hy hall⟩ (by omega))
  · obtain rfl : i = a.length := by simp at hc; omega
    have : a = b := eq_of_take hll hall
    refine G.runE tm 100 ?_
    exact G.ret Try.func114 Try.results114 (.bool true) (by kernel_rfl) fun w' hf _ => ⟨by simp [this], hf.below⟩

theorem f115_ok {va vb : Value} {a b : List Int} (ha : SlR h 1 IntR va a) (hb : SlR h 1 IntR vb b) (hs : Sub h w) :
    Calls Try.prog 115 #[va, vb] w fun e w' => e = .returned (.bool (decide (a = b))) ∧ Below w.heap.size w w' := by
  have hlen := ha.len
  refine Calls.enter [.atom (.sl va a.length), .atom (.sl vb b.length)] Try.func115 (c := bodyOf Try.f115) (by kernel_rfl) Try.ntmps115 ⟨ha.sv _ _, hb.sv _ _, trivial⟩ (by simp) hs ?_
  refine G.runE tm 100 ?_
  refine G.cond ((a.length : Int) != (b.length : Int)) (by kernel_rfl) (fun hc => ?_) (fun hc => ?_)
  · refine G.runE tm 100 ?_
    refine G.ret Try.func115 Try.results115 (.bool false) (by kernel_rfl) fun w' hf _ => ⟨?_, hf.below⟩
    have : a ≠ b := by rintro rfl; simp at hc
    simp [this]
  have hll : a.length = b.length := by simp at hc; omega
  refine G.runE tm 100 ?_
  refine G.loop (α := Nat) (fun i => ⟨[(0, .one (.atom (.sl va a.length))), (1, .one (.atom (.sl vb b.length))), (12, .one (.atom (.int .i64 a.length))), (13, .one (.atom (.int .i64 i)))], [], 0, []⟩)
    (fun i g => g = h ∧ i ≤ a.length ∧ a.take i = b.take i) (fun i => a.length - i) 0 [0, 1, 12, 13] [] 0 [] (by kernel_rfl) (by kernel_rfl) (by kernel_rfl) ⟨rfl, Nat.zero_le _, by simp⟩ ?_
  rintro i g ⟨rfl, hi, hall⟩ IH
  refine G.runE tm 100 ?_
  refine G.cond (decide ((i : Int) < (a.length : Int))) (by kernel_rfl) (fun hc => ?_) (fun hc => ?_)
  · have hlt : i < a.length := by simpa using hc
    obtain ⟨x, hx⟩ := get_of_lt hlt
    obtain ⟨y, hy⟩ := get_of_lt (hll ▸ hlt : i < b.length)
    refine G.runE tm 100 ?_
    refine G.draw [] tm (by kernel_rfl) (by kernel_rfl) ?_
    refine GD.run (by kernel_rfl) 50 ?_
    refine GD.idx 2 (d1 := some 18) (g := none) (T := 30) (E := 3) ha Try.underlying30 z3 hlt (by kernel_rfl) (by kernel_rfl) ?_
    refine GD.elInt 3 (d1 := some 19) (g := none) (E := 3) ha u3 hx (by kernel_rfl) (by kernel_rfl) ?_
    refine GD.idx 6 (d1 := some 22) (g := none) (T := 30) (E := 3) hb Try.underlying30 z3 (hll ▸ hlt) (by kernel_rfl) (by kernel_rfl) ?_
    refine GD.elInt 7 (d1 := some 23) (g := none) (E := 3) hb u3 hy (by kernel_rfl) (by kernel_rfl) ?_
    refine GD.run (by kernel_rfl) 50 ?_
    refine GD.fin (by kernel_rfl) ?_
    refine G.runE tm 100 ?_
    refine G.cond (x != y) (by kernel_rfl) (fun hc => ?_) (fun hc => ?_)
    · refine G.runE tm 100 ?_
      refine G.ret Try.func115 Try.results115 (.bool false) (by kernel_rfl) fun w' hf _ => ⟨?_, hf.below⟩
      have : a ≠ b := ne_of_get hx hy (by simpa using hc)
      simp [this]
    · obtain rfl : x = y := by simpa using hc
      refine G.runE tm 100 ?_
      refine G.reint (k := .i64) 13 (by kernel_rfl) (wrap_succ hlt hlen) ?_
      exact G.back (by kernel_rfl) [0, 1, 12, 13] [] 0 [] (by kernel_rfl) (by kernel_rfl) (IH (i + 1) _ ⟨rfl, hlt, take_eq_succ hx hy hall⟩ (by omega))
  · obtain rfl : i = a.length := by simp at hc; omega
    have : a = b := eq_of_take hll hall
    refine G.runE tm 100 ?_
    exact G.ret Try.func115 Try.results115 (.bool true) (by kernel_rfl) fun w' hf _ => ⟨by simp [this], hf.below⟩

theorem ent_eq (a b : Ent) : decide (a = b) = (a.view == b.view && a.client == b.client && a.request == b.request && a.dflt == b.dflt && a.closed == b.closed && a.fuel == b.fuel && a.stack == b.stack && decide (a.put = b.put) && decide (a.drop = b.drop)) := by
  obtain ⟨a1, a2, a3, a4, a5, a6, a7, a8, a9⟩ := a
  obtain ⟨b1, b2, b3, b4, b5, b6, b7, b8, b9⟩ := b
  rw [Bool.eq_iff_iff]
  simp [and_assoc]

theorem f60_ok {pa da pb db : Value} {a b : Ent} (h1 : SlR h 5 RulR pa a.put) (h2 : SlR h 1 IntR da a.drop) (h3 : SlR h 5 RulR pb b.put) (h4 : SlR h 1 IntR db b.drop) (hs : Sub h w) :
    Calls Try.prog 60 #[entV a pa da, entV b pb db] w fun e w' => e = .returned (.bool (decide (a = b))) ∧ Below w.heap.size w w' := by
  refine Calls.enter [.agg (entC a pa da), .agg (entC b pb db)] Try.func60 (c := bodyOf Try.f60) (by kernel_rfl) Try.ntmps60 ⟨entC_ok h1 h2 _ _, entC_ok h3 h4 _ _, trivial⟩ (by simp) hs ?_
  refine G.runE tm 100 ?_
  refine G.draw [0, 1] tm (by kernel_rfl) (by kernel_rfl) ?_
  refine GD.run (by kernel_rfl) 50 ?_
  refine GD.two 4 5 (by kernel_rfl) (GDop.eff (by kernel_rfl) ?_) (GDop.eff (by kernel_rfl) ?_)
  all_goals
    refine GD.run (by kernel_rfl) 50 ?_
    refine GD.fin (by kernel_rfl) ?_
    refine G.runE tm 100 ?_
    refine G.callGV (f := 114) (svs := [.atom (.sl pa a.put.length), .atom (.sl pb b.put.length)]) (d := 63) (tg := 58) (want := true) (by kernel_rfl) [pa, pb] (.bool (decide (a.put = b.put))) (by kernel_rfl) (by kernel_rfl) (by kernel_rfl)
      (says_of fun w hs => f114_ok h1 h3 hs) ?_
    refine G.runE tm 100 ?_
    refine G.callGV (f := 115) (svs := [.atom (.sl da a.drop.length), .atom (.sl db b.drop.length)]) (d := 70) (tg := 65) (want := true) (by kernel_rfl) [da, db] (.bool (decide (a.drop = b.drop))) (by kernel_rfl) (by kernel_rfl) (by kernel_rfl)
      (says_of fun w hs => f115_ok h2 h4 hs) ?_
    refine G.runE tm 100 ?_
    exact G.ret Try.func60 Try.results60 (.bool (a.view == b.view && a.client == b.client && a.request == b.request && a.dflt == b.dflt && a.closed == b.closed && a.fuel == b.fuel && a.stack == b.stack && decide (a.put = b.put) && decide (a.drop = b.drop))) (by kernel_rfl)
      fun w' hf _ => ⟨by rw [ent_eq], hf.below⟩

theorem f59_ok {va vb : Value} {a b : List Ent} (ha : EntsR h va a) (hb : EntsR h vb b) (hs : Sub h w) :
    Calls Try.prog 59 #[va, vb, fnV 60] w fun e w' => e = .returned (.bool (decide (a = b))) ∧ Below w.heap.size w w' := by
  have hlen := SlR.len ha
  refine Calls.enter [.atom (.sl va a.length), .atom (.sl vb b.length), .atom (.raw (fnV 60))] Try.func59 (c := bodyOf Try.f59) (by kernel_rfl) Try.ntmps59 ⟨SlR.sv ha _ _, SlR.sv hb _ _, ⟨rfl, rfl⟩, trivial⟩ (by simp) hs ?_
  refine G.runE tm 100 ?_
  refine G.cond ((a.length : Int) != (b.length : Int)) (by kernel_rfl) (fun hc => ?_) (fun hc => ?_)
  · refine G.runE tm 100 ?_
    refine G.ret Try.func59 Try.results59 (.bool false) (by kernel_rfl) fun w' hf _ => ⟨?_, hf.below⟩
    have : a ≠ b := by rintro rfl; simp at hc
    simp [this]
  have hll : a.length = b.length := by simp at hc; omega
  refine G.runE tm 100 ?_
  refine G.loop (α := Nat) (fun i => ⟨[(1, .one (.atom (.sl vb b.length))), (2, .one (.atom (.raw (fnV 60)))), (15, .one (.atom (.sl va a.length))), (16, .one (.atom (.int .i64 a.length))), (17, .one (.atom (.int .i64 i)))], [], 0, []⟩)
    (fun i g => g = h ∧ i ≤ a.length ∧ a.take i = b.take i) (fun i => a.length - i) 0 [1, 2, 15, 16, 17] [] 0 [] (by kernel_rfl) (by kernel_rfl) (by kernel_rfl) ⟨rfl, Nat.zero_le _, by simp⟩ ?_
  rintro i g ⟨rfl, hi, hall⟩ IH
  refine G.runE tm 100 ?_
  refine G.cond (decide ((i : Int) < (a.length : Int))) (by kernel_rfl) (fun hc => ?_) (fun hc => ?_)
  · have hlt : i < a.length := by simpa using hc
    obtain ⟨x, hx⟩ := get_of_lt hlt
    obtain ⟨y, hy⟩ := get_of_lt (hll ▸ hlt : i < b.length)
    refine G.runE tm 100 ?_
    refine G.idx (d1 := some 20) (g := none) (T := 22) (E := 34) ha Try.underlying22 z34 hlt (by kernel_rfl) (by kernel_rfl) ?_
    refine G.elEnt (d1 := some 21) (g := none) (E := 34) ha z34 u34 hx (by kernel_rfl) (by kernel_rfl) fun pa da hpa hda => ?_
    refine G.runE tm 100 ?_
    refine G.idx (d1 := some 24) (g := none) (T := 22) (E := 34) hb Try.underlying22 z34 (hll ▸ hlt) (by kernel_rfl) (by kernel_rfl) ?_
    refine G.elEnt (d1 := some 25) (g := none) (E := 34) hb z34 u34 hy (by kernel_rfl) (by kernel_rfl) fun pb db hpb hdb => ?_
    refine G.runE tm 100 ?_
    refine G.callV (f := 60) (svs := [.agg (entC x pa da), .agg (entC y pb db)]) (d := some 29) (by kernel_rfl) [entV x pa da, entV y pb db] (.bool (decide (x = y))) (by kernel_rfl) (by kernel_rfl) (by kernel_rfl) (fun w hs => f60_ok hpa hda hpb hdb hs) ?_
    refine G.runE tm 100 ?_
    refine G.cond (!decide (x = y)) (by kernel_rfl) (fun hc => ?_) (fun hc => ?_)
    · refine G.runE tm 100 ?_
      refine G.ret Try.func59 Try.results59 (.bool false) (by kernel_rfl) fun w' hf _ => ⟨?_, hf.below⟩
      have : a ≠ b := ne_of_get hx hy (by simpa using hc)
      simp [this]
    · obtain rfl : x = y := by simpa using hc
      refine G.runE tm 100 ?_
      refine G.reint (k := .i64) 17 (by kernel_rfl) (wrap_succ hlt hlen) ?_
      exact G.back (by kernel_rfl) [1, 2, 15, 16, 17] [] 0 [] (by kernel_rfl) (by kernel_rfl) (IH (i + 1) _ ⟨rfl, hlt, take_eq_succ hx hy hall⟩ (by omega))
  · obtain rfl : i = a.length := by simp at hc; omega
    have : a = b := eq_of_take hll hall
    refine G.runE tm 100 ?_
    exact G.ret Try.func59 Try.results59 (.bool true) (by kernel_rfl) fun w' hf _ => ⟨by simp [this], hf.below⟩

/-- pack.Same. -/
theorem f15_ok {va vb : Value} {a b : List Ent} (ha : EntsR h va a) (hb : EntsR h vb b) (hs : Sub h w) :
    Calls Try.prog 15 #[va, vb] w fun e w' => e = .returned (.bool (decide (a = b))) ∧ Below w.heap.size w w' := by
  refine Calls.enter [.atom (.sl va a.length), .atom (.sl vb b.length)] Try.func15 (c := bodyOf Try.f15) (by kernel_rfl) Try.ntmps15 ⟨SlR.sv ha _ _, SlR.sv hb _ _, trivial⟩ (by simp) hs ?_
  refine G.runE tm 100 ?_
  refine G.callV (f := 59) (svs := [.atom (.sl va a.length), .atom (.sl vb b.length), .atom (.raw (fnV 60))]) (d := some 7) (by kernel_rfl) [va, vb, fnV 60] (.bool (decide (a = b))) (by kernel_rfl) (by kernel_rfl) (by kernel_rfl) (fun w hs => f59_ok ha hb hs) ?_
  refine G.runE tm 100 ?_
  exact G.ret Try.func15 Try.results15 (.bool (decide (a = b))) (by kernel_rfl) fun w' hf _ => ⟨rfl, hf.below⟩
end eq
end Go.Proofs.Ytkjahaoobdbffaa
