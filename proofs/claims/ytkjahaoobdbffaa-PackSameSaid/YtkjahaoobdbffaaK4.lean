/- The document's form of the program's entries: the copies that the statements make. -/
import Derived.Test.YtkjahaoobdbffaaK3
import Derived.Test.YtkjahaoobdbffaaB11
namespace Go.Proofs.Ytkjahaoobdbffaa
open Go Go.RowKit
attribute [local irreducible] G GD GDop

theorem el35 : ElT Try.prog 35 124 5 48 := .of Try.underlying35 (by kernel_rfl) (by decide)
theorem el27 : ElT Try.prog 27 39 9 104 := .of Try.underlying27 (by kernel_rfl) (by decide)

def delC (e : Ent) (p d : Value) : List Cell := [.int .i64 e.dflt, .int .i64 e.closed, .int .i64 e.fuel, .int .i64 e.stack, .sl p e.put.length, .sl d e.drop.length]
def delV (e : Ent) (p d : Value) : Value := .agg #[.int .i64 e.dflt, .int .i64 e.closed, .int .i64 e.fuel, .int .i64 e.stack, p, d]
theorem delC_ok {h : GH} {e : Ent} {p d : Value} (hp : SlR h 5 RulR p e.put) (hd : SlR h 1 IntR d e.drop) (N : Nat) (β : Nat → Nat) : SV1Ok N β (.agg (delC e p d)) (delV e p d) :=
  ⟨_, rfl, rfl, rfl, rfl, rfl, hp.cell N β, hd.cell N β, trivial⟩

/-- What is not written any more reads as a list. -/
theorem SlR.of_freeze {α : Type} {h : GH} {v : Value} {m sz : Nat} {e : TypeId} {xs : List Value} {l : List α} {R : List Value → α → Prop}
    (hf : v = .slice none 0 0 ∧ m = 0 ∨ ∃ g cap cur, v = .slice (some ⟨g, 0, none⟩) m cap ∧ m ≤ cap ∧ h g = some (.cells cur e (0, 0)) ∧ cur.size = cap * sz ∧ cur.toList.take (m * sz) = xs) (hl : ListR sz R xs l) (hm : l.length = m) (hmax : m ≤ 140737488351232) : SlR h sz R v l := by
  obtain ⟨h1, h2⟩ := hl
  rcases hf with ⟨rfl, rfl⟩ | ⟨g, cap, cur, rfl, hmc, hg, hcs, htake⟩
  · have : l = [] := List.eq_nil_of_length_eq_zero hm
    subst this
    exact ⟨none, 0, rfl, Nat.le_refl _, by simp, .inl rfl⟩
  · refine ⟨some ⟨g, 0, none⟩, cap, by rw [hm], by omega, by omega, .inr ⟨g, 0, cur, e, (0, 0), rfl, hg, ?_, fun i x hx => ?_⟩⟩
    · rw [hm, hcs, Nat.zero_add]; exact Nat.mul_le_mul_right _ hmc
    · have h3 := h2 i x hx
      have hi : i < m := by have := (List.getElem?_eq_some_iff.1 hx).1; omega
      have hle : (i + 1) * sz ≤ m * sz := Nat.mul_le_mul_right _ hi
      rw [Nat.add_mul, Nat.one_mul] at hle
      rw [← htake, List.drop_take, List.take_take] at h3
      rw [Nat.zero_add]
      rwa [Nat.min_eq_left (by omega)] at h3

section made
variable {h : GH} {w : World}

theorem f62_ok {p d : Value} {e : Ent} (hp : SlR h 5 RulR p e.put) (hd : SlR h 1 IntR d e.drop) (hlen : e.put.length ≤ 1000) (hs : Sub h w) :
    Calls Try.prog 62 #[delV e p d] w fun e' w' => ∃ v h', e' = .returned v ∧ Grow h w h' w' ∧ ∃ p', v = delV e p' d ∧ SlR h' 5 RulR p' e.put := by
  refine Calls.enter [.agg (delC e p d)] Try.func62 (c := bodyOf Try.f62) (by kernel_rfl) Try.ntmps62 ⟨delC_ok hp hd _ _, trivial⟩ (by simp) hs ?_
  refine G.runE tm 100 ?_
  refine G.ownNil 0 124 5 ?_
  refine G.loop (α := Nat × Value × List Value)
    (fun x => ⟨[(2, .one (.atom (.ptr 1 0))), (3, .one (.atom (.ptr 2 0))), (18, .one (.atom (.sl p e.put.length))), (19, .one (.atom (.int .i64 e.put.length))), (20, .one (.atom (.int .i64 x.1)))],
      [(1, ⟨none, .lit 37 [.int .i64 0, .int .i64 0, .int .i64 0, .int .i64 0, .sl (.slice none 0 0) 0, .sl (.slice none 0 0) 0]⟩),
       (2, ⟨none, .lit 37 [.int .i64 e.dflt, .int .i64 e.closed, .int .i64 e.fuel, .int .i64 e.stack, .sl x.2.1 x.1, .sl d e.drop.length]⟩)], 3, [(0, ⟨124, 5, x.2.1, x.1, x.2.2⟩)]⟩)
    (fun x g => g = h ∧ x.1 ≤ e.put.length ∧ ListR 5 RulR x.2.2 (e.put.take x.1)) (fun x => e.put.length - x.1) (0, .slice none 0 0, []) [2, 3, 18, 19, 20] [1, 2] 3 [0] (by kernel_rfl) (by kernel_rfl) (by kernel_rfl) ⟨rfl, Nat.zero_le _, by simpa using ListR.nil⟩ ?_
  rintro ⟨i, v, xs⟩ g ⟨rfl, hi, hxs⟩ IH
  simp only at hi hxs
  refine G.runE tm 100 ?_
  refine G.cond (decide ((i : Int) < (e.put.length : Int))) (by kernel_rfl) (fun hc => ?_) (fun hc => ?_)
  · have hlt : i < e.put.length := by simpa using hc
    obtain ⟨r, hr⟩ := get_of_lt hlt
    refine G.runE tm 100 ?_
    refine G.idx (d1 := some 22) (g := none) (T := 29) (E := 114) hp Try.underlying29 z114 hlt (by kernel_rfl) (by kernel_rfl) ?_
    refine G.elRul (d1 := some 23) (g := none) (E := 114) hp z114 u114 hr (by kernel_rfl) (by kernel_rfl) ?_
    refine G.runE tm 100 ?_
    refine G.appLit (T := 35) (v := v) (m := i) (xs := xs) (kx := 4) (q := 1) (q' := 1) (d := some 28) el35 0 (by kernel_rfl) (by kernel_rfl) (by kernel_rfl) (bi := none) (e' := 124) (cs := rulC r) (by kernel_rfl)
      (news := [.int .i64 r.id, .int .i64 r.pri, .int .i64 r.act, .int .i64 r.sco, .string r.pat]) (by kernel_rfl) rfl (by omega) (by omega) fun v' _ => ?_
    refine G.runE tm 100 ?_
    refine G.reint (k := .i64) 20 (by kernel_rfl) (wrap_succ hlt hp.len) ?_
    refine G.back (by kernel_rfl) [2, 3, 18, 19, 20] [1, 2] 3 [0] (by kernel_rfl) (by kernel_rfl) (IH (i + 1, v', xs ++ [.int .i64 r.id, .int .i64 r.pri, .int .i64 r.act, .int .i64 r.sco, .string r.pat]) _ ⟨rfl, hlt, ?_⟩ (by simp only; omega))
    rw [List.take_add_one, hr]
    exact hxs.snoc rfl rfl
  · obtain rfl : i = e.put.length := by simp at hc; omega
    rw [List.take_length] at hxs
    refine G.freeze 0 (e := 124) (sz := 5) (v := v) (m := e.put.length) (xs := xs) (by kernel_rfl) fun h' hle hf _ => ?_
    have hv := SlR.of_freeze hf hxs rfl (by omega)
    refine G.runE tm 100 ?_
    exact G.retG Try.func62 Try.results62 (delV e v d) (by kernel_rfl) rfl fun w' hg => ⟨_, h', rfl, hg, v, rfl, hv⟩

/-- An entry's bounds in which the copies are made. -/
def Bnd (e : Ent) : Prop := e.put.length ≤ 1000

theorem EntR.mk {h : GH} {e : Ent} {p d : Value} (hp : SlR h 5 RulR p e.put) (hd : SlR h 1 IntR d e.drop) : EntR h [.int .i64 e.view, .int .i64 e.client, .int .i64 e.request, .int .i64 e.dflt, .int .i64 e.closed, .int .i64 e.fuel, .int .i64 e.stack, p, d] e :=
  ⟨p, d, rfl, hp, hd⟩

theorem f17_ok {v : Value} {l : List Ent} (hl : EntsR h v l) (hb : ∀ e ∈ l, Bnd e) (hn : l.length ≤ 100000) (hs : Sub h w) :
    Calls Try.prog 17 #[v] w fun e' w' => ∃ v' h', e' = .returned v' ∧ Grow h w h' w' ∧ EntsR h' v' l := by
  refine Calls.enter [.atom (.sl v l.length)] Try.func17 (c := bodyOf Try.f17) (by kernel_rfl) Try.ntmps17 ⟨hl.sv _ _, trivial⟩ (by simp) hs ?_
  refine G.runE tm 100 ?_
  refine G.ownNil 0 39 9 ?_
  refine G.loop (α := Nat × Value × List Value)
    (fun x => ⟨[(3, .one (.atom (.sl x.2.1 x.1))), (6, .one (.atom (.sl v l.length))), (7, .one (.atom (.int .i64 l.length))), (8, .one (.atom (.int .i64 x.1)))], [], 0, [(0, ⟨39, 9, x.2.1, x.1, x.2.2⟩)]⟩)
    (fun x g => GLe h g ∧ x.1 ≤ l.length ∧ ListR 9 (EntR g) x.2.2 (l.take x.1)) (fun x => l.length - x.1) (0, .slice none 0 0, []) [3, 6, 7, 8] [] 0 [0] (by kernel_rfl) (by kernel_rfl) (by kernel_rfl) ⟨GLe.refl h, Nat.zero_le _, by simpa using ListR.nil⟩ ?_
  rintro ⟨i, u, xs⟩ g ⟨hle, hi, hxs⟩ IH
  simp only at hi hxs
  refine G.runE tm 100 ?_
  refine G.cond (decide ((i : Int) < (l.length : Int))) (by kernel_rfl) (fun hc => ?_) (fun hc => ?_)
  · have hlt : i < l.length := by simpa using hc
    obtain ⟨e, he⟩ := get_of_lt hlt
    refine G.runE tm 100 ?_
    refine G.idx (d1 := some 10) (g := none) (T := 22) (E := 34) (hl.mono hle) Try.underlying22 z34 hlt (by kernel_rfl) (by kernel_rfl) ?_
    refine G.elEnt (d1 := some 11) (g := none) (E := 34) (hl.mono hle) z34 u34 he (by kernel_rfl) (by kernel_rfl) fun p d hp hd => ?_
    refine G.runE tm 100 ?_
    refine G.draw [0] tm (by kernel_rfl) (by kernel_rfl) ?_
    refine GD.run (by kernel_rfl) 50 ?_
    refine GD.one 9 (by kernel_rfl) (GDop.callP (f := 62) (svs := [.agg (delC e p d)]) (dst := some 21) (by kernel_rfl) [delV e p d] (by kernel_rfl) (by kernel_rfl) (by kernel_rfl) (by kernel_rfl)
      (fun h' v' => ∃ p', v' = delV e p' d ∧ SlR h' 5 RulR p' e.put) (fun w hw => f62_ok hp hd (hb e (List.mem_of_getElem? he)) hw) ?_)
    rintro g' v' ⟨p', rfl, hp'⟩ hgg
    have hd' := hd.mono hgg fun _ _ h => h
    refine ⟨.one (.agg (delC e p' d)), fun N β _ => delC_ok hp' hd' N β, ?_⟩
    refine GD.run (by kernel_rfl) 50 ?_
    refine GD.one 12 (by kernel_rfl) (GDop.appLit (T := 27) (v := u) (m := i) (xs := xs) (kx := 1) (q := 1) (q' := 1) (d := some 24) el27 0 (by kernel_rfl) (by kernel_rfl) (by kernel_rfl) (bi := none) (e' := 39) (cs := entC e p' d) (by kernel_rfl)
      (news := [.int .i64 e.view, .int .i64 e.client, .int .i64 e.request, .int .i64 e.dflt, .int .i64 e.closed, .int .i64 e.fuel, .int .i64 e.stack, p', d]) (by kernel_rfl) rfl (by omega) (by omega) fun u' _ => ?_)
    refine GD.run (by kernel_rfl) 50 ?_
    refine GD.fin (by kernel_rfl) ?_
    refine G.runE tm 100 ?_
    refine G.reint (k := .i64) 8 (by kernel_rfl) (wrap_succ hlt hl.len) ?_
    refine G.back (by kernel_rfl) [3, 6, 7, 8] [] 0 [0] (by kernel_rfl) (by kernel_rfl) (IH (i + 1, u', xs ++ [.int .i64 e.view, .int .i64 e.client, .int .i64 e.request, .int .i64 e.dflt, .int .i64 e.closed, .int .i64 e.fuel, .int .i64 e.stack, p', d]) _ ⟨hle.trans hgg, hlt, ?_⟩ (by simp only; omega))
    rw [List.take_add_one, he]
    exact (hxs.mono fun _ _ h => h.mono hgg).snoc rfl (EntR.mk hp' hd')
  · obtain rfl : i = l.length := by simp at hc; omega
    rw [List.take_length] at hxs
    refine G.freeze 0 (e := 39) (sz := 9) (v := u) (m := l.length) (xs := xs) (by kernel_rfl) fun h' hle' hf _ => ?_
    have hv := SlR.of_freeze hf (hxs.mono fun _ _ h => h.mono hle') rfl (by omega)
    refine G.runE tm 100 ?_
    exact G.retG Try.func17 Try.results17 u (by kernel_rfl) rfl fun w' hg => ⟨_, h', rfl, hg, hv⟩
end made
end Go.Proofs.Ytkjahaoobdbffaa
