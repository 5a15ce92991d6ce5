/- The document's Same, on the copies. -/
import Derived.Test.YtkjahaoobdbffaaK3
import Derived.Test.YtkjahaoobdbffaaK4
namespace Go.Proofs.Ytkjahaoobdbffaa
open Go Go.RowKit
attribute [local irreducible] G GD GDop

def deltaBad (a b : Ent) : Bool :=
  a.dflt != b.dflt || a.closed != b.closed || a.fuel != b.fuel || a.stack != b.stack || (a.put.length : Int) != (b.put.length : Int) || (a.drop.length : Int) != (b.drop.length : Int)
def deltaEq (a b : Ent) : Prop := a.dflt = b.dflt ∧ a.closed = b.closed ∧ a.fuel = b.fuel ∧ a.stack = b.stack ∧ a.put = b.put ∧ a.drop = b.drop
instance (a b : Ent) : Decidable (deltaEq a b) := by unfold deltaEq; infer_instance

section s
variable {h : GH} {w : World}

theorem f61_ok {pa da pb db : Value} {a b : Ent} (h1 : SlR h 5 RulR pa a.put) (h2 : SlR h 1 IntR da a.drop) (h3 : SlR h 5 RulR pb b.put) (h4 : SlR h 1 IntR db b.drop) (hs : Sub h w) :
    Calls Try.prog 61 #[delV a pa da, delV b pb db] w fun e w' => e = .returned (.bool (decide (deltaEq a b))) ∧ Below w.heap.size w w' := by
  have l1 := h1.len
  have l2 := h2.len
  refine Calls.enter [.agg (delC a pa da), .agg (delC b pb db)] Try.func61 (c := bodyOf Try.f61) (by kernel_rfl) Try.ntmps61 ⟨delC_ok h1 h2 _ _, delC_ok h3 h4 _ _, trivial⟩ (by simp) hs ?_
  refine G.runE tm 100 ?_
  refine G.cond (deltaBad a b) (by kernel_rfl) (fun hc => ?_) (fun hc => ?_)
  · refine G.runE tm 100 ?_
    refine G.ret Try.func61 Try.results61 (.bool false) (by kernel_rfl) fun w' hf _ => ⟨?_, hf.below⟩
    have : ¬ deltaEq a b := by
      rintro ⟨e1, e2, e3, e4, e5, e6⟩
      simp [deltaBad, e1, e2, e3, e4, e5, e6] at hc
    simp [this]
  simp only [deltaBad, Bool.or_eq_false_iff, bne_eq_false_iff_eq] at hc
  obtain ⟨⟨⟨⟨⟨e1, e2⟩, e3⟩, e4⟩, e5⟩, e6⟩ := hc
  have e5' : a.put.length = b.put.length := by omega
  have e6' : a.drop.length = b.drop.length := by omega
  refine G.runE tm 100 ?_
  refine G.loop (α := Nat) (fun i => ⟨[(2, .one (.atom (.ptr 0 0))), (3, .one (.atom (.ptr 1 0))), (5, .one (.atom (.int .i64 i)))], [(0, ⟨none, .lit 37 (delC a pa da)⟩), (1, ⟨none, .lit 37 (delC b pb db)⟩)], 2, []⟩)
    (fun i g => g = h ∧ i ≤ a.put.length ∧ a.put.take i = b.put.take i) (fun i => a.put.length - i) 0 [2, 3, 5] [0, 1] 2 [] (by kernel_rfl) (by kernel_rfl) (by kernel_rfl) ⟨rfl, Nat.zero_le _, by simp⟩ ?_
  rintro i g ⟨rfl, hi, hall⟩ IH
  refine G.runE tm 100 ?_
  refine G.cond (decide ((i : Int) < (a.put.length : Int))) (by kernel_rfl) (fun hc => ?_) (fun hc => ?_)
  · have hlt : i < a.put.length := by simpa using hc
    obtain ⟨x, hx⟩ := get_of_lt hlt
    obtain ⟨y, hy⟩ := get_of_lt (e5' ▸ hlt : i < b.put.length)
    refine G.runE tm 100 ?_
    refine G.draw [0, 1] tm (by kernel_rfl) (by kernel_rfl) ?_
    refine GD.run (by kernel_rfl) 50 ?_
    refine GD.idx 3 (d1 := some 61) (g := none) (T := 35) (E := 124) h1 Try.underlying35 z124 hlt (by kernel_rfl) (by kernel_rfl) ?_
    refine GD.elRul 4 (d1 := some 62) (g := none) (E := 124) h1 z124 u124 hx (by kernel_rfl) (by kernel_rfl) ?_
    refine GD.idx 8 (d1 := some 66) (g := none) (T := 35) (E := 124) h3 Try.underlying35 z124 (e5' ▸ hlt) (by kernel_rfl) (by kernel_rfl) ?_
    refine GD.elRul 9 (d1 := some 67) (g := none) (E := 124) h3 z124 u124 hy (by kernel_rfl) (by kernel_rfl) ?_
    refine GD.sem 10 (m := valS (do eqGuard .neq 124 (.tmp 62) (.tmp 67) (rulV x) (rulV y); binOp .neq 124 (rulV x) (rulV y))) (dst := some 68) (g := none) (by kernel_rfl) (by kernel_rfl) (.bool (!decide (x = y))) (.atom (.bool (!decide (x = y)))) (fun _ _ => rfl)
      (says_of fun w _ => rulNeq_run t124 s124 g124 _ _ x y w) ?_
    refine GD.fin (by kernel_rfl) ?_
    refine G.runE tm 100 ?_
    refine G.cond (!decide (x = y)) (by kernel_rfl) (fun hc => ?_) (fun hc => ?_)
    · refine G.runE tm 100 ?_
      refine G.ret Try.func61 Try.results61 (.bool false) (by kernel_rfl) fun w' hf _ => ⟨?_, hf.below⟩
      have : ¬ deltaEq a b := fun e => ne_of_get hx hy (by simpa using hc) e.2.2.2.2.1
      simp [this]
    · obtain rfl : x = y := by simpa using hc
      refine G.runE tm 100 ?_
      refine G.reint (k := .i64) 5 (by kernel_rfl) (wrap_succ hlt l1) ?_
      exact G.back (by kernel_rfl) [2, 3, 5] [0, 1] 2 [] (by kernel_rfl) (by kernel_rfl) (IH (i + 1) _ ⟨rfl, hlt, take_eq_succ hx hy hall⟩ (by omega))
  · obtain rfl : i = a.put.length := by simp at hc; omega
    have hput : a.put = b.put := eq_of_take e5' hall
    refine G.runE tm 100 ?_
    refine G.loop (α := Nat) (fun i => ⟨[(2, .one (.atom (.ptr 0 0))), (3, .one (.atom (.ptr 1 0))), (6, .one (.atom (.int .i64 i)))], [(0, ⟨none, .lit 37 (delC a pa da)⟩), (1, ⟨none, .lit 37 (delC b pb db)⟩)], 2, []⟩)
      (fun i g' => g' = g ∧ i ≤ a.drop.length ∧ a.drop.take i = b.drop.take i) (fun i => a.drop.length - i) 0 [2, 3, 6] [0, 1] 2 [] (by kernel_rfl) (by kernel_rfl) (by kernel_rfl) ⟨rfl, Nat.zero_le _, by simp⟩ ?_
    rintro i g' ⟨rfl, hi, hall⟩ IH
    refine G.runE tm 100 ?_
    refine G.cond (decide ((i : Int) < (a.drop.length : Int))) (by kernel_rfl) (fun hc => ?_) (fun hc => ?_)
    · have hlt : i < a.drop.length := by simpa using hc
      obtain ⟨x, hx⟩ := get_of_lt hlt
      obtain ⟨y, hy⟩ := get_of_lt (e6' ▸ hlt : i < b.drop.length)
      refine G.runE tm 100 ?_
      refine G.draw [0, 1] tm (by kernel_rfl) (by kernel_rfl) ?_
      refine GD.run (by kernel_rfl) 50 ?_
      refine GD.idx 3 (d1 := some 79) (g := none) (T := 30) (E := 3) h2 Try.underlying30 z3 hlt (by kernel_rfl) (by kernel_rfl) ?_
      refine GD.elInt 4 (d1 := some 80) (g := none) (E := 3) h2 u3 hx (by kernel_rfl) (by kernel_rfl) ?_
      refine GD.idx 8 (d1 := some 84) (g := none) (T := 30) (E := 3) h4 Try.underlying30 z3 (e6' ▸ hlt) (by kernel_rfl) (by kernel_rfl) ?_
      refine GD.elInt 9 (d1 := some 85) (g := none) (E := 3) h4 u3 hy (by kernel_rfl) (by kernel_rfl) ?_
      refine GD.run (by kernel_rfl) 50 ?_
      refine GD.fin (by kernel_rfl) ?_
      refine G.runE tm 100 ?_
      refine G.cond (x != y) (by kernel_rfl) (fun hc => ?_) (fun hc => ?_)
      · refine G.runE tm 100 ?_
        refine G.ret Try.func61 Try.results61 (.bool false) (by kernel_rfl) fun w' hf _ => ⟨?_, hf.below⟩
        have : ¬ deltaEq a b := fun e => ne_of_get hx hy (by simpa using hc) e.2.2.2.2.2
        simp [this]
      · obtain rfl : x = y := by simpa using hc
        refine G.runE tm 100 ?_
        refine G.reint (k := .i64) 6 (by kernel_rfl) (wrap_succ hlt l2) ?_
        exact G.back (by kernel_rfl) [2, 3, 6] [0, 1] 2 [] (by kernel_rfl) (by kernel_rfl) (IH (i + 1) _ ⟨rfl, hlt, take_eq_succ hx hy hall⟩ (by omega))
    · obtain rfl : i = a.drop.length := by simp at hc; omega
      have hdrop : a.drop = b.drop := eq_of_take e6' hall
      refine G.runE tm 100 ?_
      refine G.ret Try.func61 Try.results61 (.bool true) (by kernel_rfl) fun w' hf _ => ⟨?_, hf.below⟩
      have : deltaEq a b := ⟨e1, e2, e3, e4, hput, hdrop⟩
      simp [this]

/-- A part of an element, read where it lies. -/
theorem SlR.parts {α : Type} {P : Program} {sz : Nat} {R : List Value → α → Prop} {v : Value} {l : List α} (hs : SlR h sz R v l) {i : Nat} {x : α} (hx : l[i]? = some x) :
    ∃ cs : List Value, R cs x ∧ cs.length = sz ∧
      (∀ (E : TypeId) (d : TypeDesc) (off : Nat) (u : Value), P.underlying E = some d → isAggD d = false → cs[off]? = some u → ∀ w, Sub h w → (Instr.loadAt E (.pointer (some ((elemAddr v sz i).add off)))).run P w = .ok u w) ∧
      (∀ (E : TypeId) (d : TypeDesc) (off m : Nat), P.underlying E = some d → isAggD d = true → sizeP P E = some m → off + m ≤ sz → ∀ w, Sub h w → (Instr.loadAt E (.pointer (some ((elemAddr v sz i).add off)))).run P w = .ok (.agg ((cs.drop off).take m).toArray) w) := by
  obtain ⟨ao, cap, rfl, h2, h3, h4⟩ := hs
  have hi : i < l.length := (List.getElem?_eq_some_iff.1 hx).1
  rcases h4 with rfl | ⟨b, o, arr, T', fr, rfl, e2, e3, e4⟩
  · simp at hi
  · have hR := e4 i x hx
    have hle : (i + 1) * sz ≤ l.length * sz := Nat.mul_le_mul_right _ hi
    rw [Nat.add_mul, Nat.one_mul] at hle
    have hlen : ((arr.toList.drop (o + i * sz)).take sz).length = sz := by simp; omega
    refine ⟨_, hR, hlen, fun E d off u hd hag hu w hw => ?_, fun E d off m hd hag hm hom w hw => ?_⟩
    · have ha : (elemAddr (.slice (some ⟨b, o, none⟩) l.length cap) sz i).add off = ⟨b, o + i * sz + off, none⟩ := by simp [elemAddr, Addr.add_lit]
      rw [ha]
      have hos : off < sz := by
        have := (List.getElem?_eq_some_iff.1 hu).1
        rw [hlen] at this; exact this
      have : w.cell? ⟨b, o + i * sz + off, none⟩ = some u := by
        rw [cell_of_heap (hw _ _ e2)]
        rw [List.getElem?_take, if_pos hos, List.getElem?_drop] at hu
        simpa using hu
      simp only [Instr.loadAt, Instr.sureAddr, loadVar, Sem.run_bind, Sem.run_pure, Result.andThen_ok, run_isAggP hd, hag, Bool.false_eq_true, if_false, run_load, this]
    · have ha : (elemAddr (.slice (some ⟨b, o, none⟩) l.length cap) sz i).add off = ⟨b, o + i * sz + off, none⟩ := by simp [elemAddr, Addr.add_lit]
      rw [ha]
      have hcut : (((arr.toList.drop (o + i * sz)).take sz).drop off).take m = (arr.toList.drop (o + i * sz + off)).take m := by
        rw [List.drop_take, List.take_take, List.drop_drop, Nat.min_eq_left (by omega)]
      rw [hcut]
      simp only [Instr.loadAt, Instr.sureAddr, loadVar, Sem.run_bind, Sem.run_pure, Result.andThen_ok, run_isAggP hd, hag, if_true, run_sizeP hm, run_loadCells_heap (hw _ _ e2) (off := o + i * sz + off) (m := m) (by omega)]

theorem ent_eq_iff (x y : Ent) : x = y ↔ x.view = y.view ∧ x.client = y.client ∧ x.request = y.request ∧ deltaEq x y := by
  constructor
  · rintro rfl; exact ⟨rfl, rfl, rfl, rfl, rfl, rfl, rfl, rfl, rfl⟩
  · obtain ⟨a1, a2, a3, a4, a5, a6, a7, a8, a9⟩ := x
    obtain ⟨b1, b2, b3, b4, b5, b6, b7, b8, b9⟩ := y
    rintro ⟨h1, h2, h3, h4, h5, h6, h7, h8, h9⟩
    simp only at h1 h2 h3 h4 h5 h6 h7 h8 h9
    subst h1 h2 h3 h4 h5 h6 h7 h8 h9
    rfl

theorem ent_ne_iff (x y : Ent) : (!decide (x = y)) = (x.view != y.view || x.client != y.client || x.request != y.request || !decide (deltaEq x y)) := by
  rw [show decide (x = y) = decide (x.view = y.view ∧ x.client = y.client ∧ x.request = y.request ∧ deltaEq x y) from decide_eq_decide.2 (ent_eq_iff x y)]
  by_cases h1 : x.view = y.view <;> by_cases h2 : x.client = y.client <;> by_cases h3 : x.request = y.request <;> by_cases h4 : deltaEq x y <;> simp [h1, h2, h3, h4]

theorem z37 : sizeP Try.prog 37 = some 6 := by kernel_rfl

theorem f16_ok {va vb : Value} {a b : List Ent} (ha : EntsR h va a) (hb : EntsR h vb b) (hs : Sub h w) :
    Calls Try.prog 16 #[va, vb] w fun e w' => e = .returned (.bool (decide (a = b))) ∧ Below w.heap.size w w' := by
  have hlen := SlR.len ha
  refine Calls.enter [.atom (.sl va a.length), .atom (.sl vb b.length)] Try.func16 (c := bodyOf Try.f16) (by kernel_rfl) Try.ntmps16 ⟨SlR.sv ha _ _, SlR.sv hb _ _, trivial⟩ (by simp) hs ?_
  refine G.runE tm 100 ?_
  refine G.cond ((a.length : Int) != (b.length : Int)) (by kernel_rfl) (fun hc => ?_) (fun hc => ?_)
  · refine G.runE tm 100 ?_
    refine G.ret Try.func16 Try.results16 (.bool false) (by kernel_rfl) fun w' hf _ => ⟨?_, hf.below⟩
    have : a ≠ b := by rintro rfl; simp at hc
    simp [this]
  have hll : a.length = b.length := by simp at hc; omega
  refine G.runE tm 100 ?_
  refine G.loop (α := Nat) (fun i => ⟨[(0, .one (.atom (.sl va a.length))), (1, .one (.atom (.sl vb b.length))), (5, .one (.atom (.int .i64 i)))], [], 0, []⟩)
    (fun i g => g = h ∧ i ≤ a.length ∧ a.take i = b.take i) (fun i => a.length - i) 0 [0, 1, 5] [] 0 [] (by kernel_rfl) (by kernel_rfl) (by kernel_rfl) ⟨rfl, Nat.zero_le _, by simp⟩ ?_
  rintro i g ⟨rfl, hi, hall⟩ IH
  refine G.runE tm 100 ?_
  refine G.cond (decide ((i : Int) < (a.length : Int))) (by kernel_rfl) (fun hc => ?_) (fun hc => ?_)
  · have hlt : i < a.length := by simpa using hc
    obtain ⟨x, hx⟩ := get_of_lt hlt
    obtain ⟨y, hy⟩ := get_of_lt (hll ▸ hlt : i < b.length)
    obtain ⟨cs, ⟨pa, da, rfl, hpa, hda⟩, -, hx1, hxA⟩ := SlR.parts (P := Try.prog) ha hx
    obtain ⟨ds, ⟨pb, db, rfl, hpb, hdb⟩, -, hy1, hyA⟩ := SlR.parts (P := Try.prog) hb hy
    refine G.runE tm 100 ?_
    refine G.draw [] tm (by kernel_rfl) (by kernel_rfl) ?_
    refine GD.run (by kernel_rfl) 50 ?_
    refine GD.idx 2 (d1 := some 19) (g := none) (T := 27) (E := 39) ha Try.underlying27 z39 hlt (by kernel_rfl) (by kernel_rfl) ?_
    refine GD.run (by kernel_rfl) 50 ?_
    refine GD.sem 4 (m := valS (Instr.loadAt 3 (.pointer (some ((elemAddr va 9 i).add 0))))) (dst := some 21) (g := none) (by kernel_rfl) (by kernel_rfl) (.int .i64 x.view) (.atom (.int .i64 x.view)) (fun _ _ => rfl) (says_of fun w hw => run_valS (hx1 3 _ 0 _ Try.underlying3 rfl rfl w hw)) ?_
    refine GD.run (by kernel_rfl) 50 ?_
    refine GD.idx 7 (d1 := some 24) (g := none) (T := 27) (E := 39) hb Try.underlying27 z39 (hll ▸ hlt) (by kernel_rfl) (by kernel_rfl) ?_
    refine GD.run (by kernel_rfl) 50 ?_
    refine GD.sem 9 (m := valS (Instr.loadAt 3 (.pointer (some ((elemAddr vb 9 i).add 0))))) (dst := some 26) (g := none) (by kernel_rfl) (by kernel_rfl) (.int .i64 y.view) (.atom (.int .i64 y.view)) (fun _ _ => rfl) (says_of fun w hw => run_valS (hy1 3 _ 0 _ Try.underlying3 rfl rfl w hw)) ?_
    refine GD.run (by kernel_rfl) 50 ?_
    refine GD.idx 14 (d1 := some 31) (g := some (28, false)) (T := 27) (E := 39) ha Try.underlying27 z39 hlt (by kernel_rfl) (by kernel_rfl) ?_
    refine GD.run (by kernel_rfl) 50 ?_
    refine GD.sem 16 (m := valS (Instr.loadAt 3 (.pointer (some ((elemAddr va 9 i).add 1))))) (dst := some 33) (g := some (28, false)) (by kernel_rfl) (by kernel_rfl) (.int .i64 x.client) (.atom (.int .i64 x.client)) (fun _ _ => rfl) (says_of fun w hw => run_valS (hx1 3 _ 1 _ Try.underlying3 rfl rfl w hw)) ?_
    refine GD.run (by kernel_rfl) 50 ?_
    refine GD.idx 19 (d1 := some 36) (g := some (28, false)) (T := 27) (E := 39) hb Try.underlying27 z39 (hll ▸ hlt) (by kernel_rfl) (by kernel_rfl) ?_
    refine GD.run (by kernel_rfl) 50 ?_
    refine GD.sem 21 (m := valS (Instr.loadAt 3 (.pointer (some ((elemAddr vb 9 i).add 1))))) (dst := some 38) (g := some (28, false)) (by kernel_rfl) (by kernel_rfl) (.int .i64 y.client) (.atom (.int .i64 y.client)) (fun _ _ => rfl) (says_of fun w hw => run_valS (hy1 3 _ 1 _ Try.underlying3 rfl rfl w hw)) ?_
    refine GD.run (by kernel_rfl) 50 ?_
    refine GD.idx 27 (d1 := some 44) (g := some (41, false)) (T := 27) (E := 39) ha Try.underlying27 z39 hlt (by kernel_rfl) (by kernel_rfl) ?_
    refine GD.run (by kernel_rfl) 50 ?_
    refine GD.sem 29 (m := valS (Instr.loadAt 3 (.pointer (some ((elemAddr va 9 i).add 2))))) (dst := some 46) (g := some (41, false)) (by kernel_rfl) (by kernel_rfl) (.int .i64 x.request) (.atom (.int .i64 x.request)) (fun _ _ => rfl) (says_of fun w hw => run_valS (hx1 3 _ 2 _ Try.underlying3 rfl rfl w hw)) ?_
    refine GD.run (by kernel_rfl) 50 ?_
    refine GD.idx 32 (d1 := some 49) (g := some (41, false)) (T := 27) (E := 39) hb Try.underlying27 z39 (hll ▸ hlt) (by kernel_rfl) (by kernel_rfl) ?_
    refine GD.run (by kernel_rfl) 50 ?_
    refine GD.sem 34 (m := valS (Instr.loadAt 3 (.pointer (some ((elemAddr vb 9 i).add 2))))) (dst := some 51) (g := some (41, false)) (by kernel_rfl) (by kernel_rfl) (.int .i64 y.request) (.atom (.int .i64 y.request)) (fun _ _ => rfl) (says_of fun w hw => run_valS (hy1 3 _ 2 _ Try.underlying3 rfl rfl w hw)) ?_
    refine GD.run (by kernel_rfl) 50 ?_
    refine GD.idx 40 (d1 := some 57) (g := some (54, false)) (T := 27) (E := 39) ha Try.underlying27 z39 hlt (by kernel_rfl) (by kernel_rfl) ?_
    refine GD.run (by kernel_rfl) 50 ?_
    refine GD.sem 42 (m := valS (Instr.loadAt 37 (.pointer (some ((elemAddr va 9 i).add 3))))) (dst := some 59) (g := some (54, false)) (by kernel_rfl) (by kernel_rfl) (delV x pa da) (.agg (delC x pa da)) (delC_ok hpa hda) (says_of fun w hw => run_valS (hxA 37 _ 3 6 Try.underlying37 rfl z37 (by decide) w hw)) ?_
    refine GD.run (by kernel_rfl) 50 ?_
    refine GD.idx 45 (d1 := some 62) (g := some (54, false)) (T := 27) (E := 39) hb Try.underlying27 z39 (hll ▸ hlt) (by kernel_rfl) (by kernel_rfl) ?_
    refine GD.run (by kernel_rfl) 50 ?_
    refine GD.sem 47 (m := valS (Instr.loadAt 37 (.pointer (some ((elemAddr vb 9 i).add 3))))) (dst := some 64) (g := some (54, false)) (by kernel_rfl) (by kernel_rfl) (delV y pb db) (.agg (delC y pb db)) (delC_ok hpb hdb) (says_of fun w hw => run_valS (hyA 37 _ 3 6 Try.underlying37 rfl z37 (by decide) w hw)) ?_
    refine GD.run (by kernel_rfl) 50 ?_
    refine GD.one 48 (by kernel_rfl) (GDop.callGV (f := 61) (svs := [.agg (delC x pa da), .agg (delC y pb db)]) (dd := 65) (tg := 54) (want := false) (by kernel_rfl) [delV x pa da, delV y pb db] (.bool (decide (deltaEq x y))) (by kernel_rfl) (by kernel_rfl) (by kernel_rfl)
      (says_of fun w hs => f61_ok hpa hda hpb hdb hs) ?_)
    refine GD.run (by kernel_rfl) 50 ?_
    refine GD.fin (by kernel_rfl) ?_
    refine G.runE tm 100 ?_
    refine G.cond (x.view != y.view || x.client != y.client || x.request != y.request || !decide (deltaEq x y)) (by kernel_rfl) (fun hc => ?_) (fun hc => ?_)
    · refine G.runE tm 100 ?_
      refine G.ret Try.func16 Try.results16 (.bool false) (by kernel_rfl) fun w' hf _ => ⟨?_, hf.below⟩
      have hne : x ≠ y := fun e => by rw [← ent_ne_iff] at hc; simp [e] at hc
      have : a ≠ b := ne_of_get hx hy hne
      simp [this]
    · obtain rfl : x = y := by rw [← ent_ne_iff] at hc; simpa using hc
      refine G.runE tm 100 ?_
      refine G.reint (k := .i64) 5 (by kernel_rfl) (wrap_succ hlt hlen) ?_
      exact G.back (by kernel_rfl) [0, 1, 5] [] 0 [] (by kernel_rfl) (by kernel_rfl) (IH (i + 1) _ ⟨rfl, hlt, take_eq_succ hx hy hall⟩ (by omega))
  · obtain rfl : i = a.length := by simp at hc; omega
    have : a = b := eq_of_take hll hall
    refine G.runE tm 100 ?_
    refine G.ret Try.func16 Try.results16 (.bool true) (by kernel_rfl) fun w' hf _ => ⟨?_, hf.below⟩
    simp [this]
end s
end Go.Proofs.Ytkjahaoobdbffaa
