/- Merged: K35 B29 K36 K37 B30 K38 K14 K39 O1 O2 -/
import Derived.Deep.Slices
import Derived.SizedLaws
import Derived.Test.YtkjahaoobdbffaaX8

/- The replica in memory: a submission. -/
namespace Go.Proofs.Ytkjahaoobdbffaa
open Go Go.RowKit
attribute [local irreducible] G GD GDop

def Rep.submit (r : Rep) (e : Ent) : Rep × List Msg × Int := if r.submitErr e ≠ 0 then (r, [], r.submitErr e) else ({ r.submitOk e with out := [] }, (r.submitOk e).out, 0)

def entAt (r : Rep) (e : Ent) : Ent := { e with view := r.view }

def entL (e : Ent) (p d : Value) : List Value := [.int .i64 e.view, .int .i64 e.client, .int .i64 e.request, .int .i64 e.dflt, .int .i64 e.closed, .int .i64 e.fuel, .int .i64 e.stack, p, d]

theorem SlR.of_box {α : Type} {h : GH} {sz b m : Nat} {R : List Value → α → Prop} {xs : List Value} {l : List α} {T : TypeId} (hl : ListR sz R xs l) (hm : l.length = m) (hb : h b = some (.cells xs.toArray T (0, 0))) (hmax : m ≤ 140737488351232) : SlR h sz R (.slice (some ⟨b, 0, none⟩) m m) l :=
  SlR.of_list (rest := #[]) hl hm (by simpa using hb) (Nat.le_refl _) hmax

set_option maxHeartbeats 8000000 in
theorem f47_ok {A : Adr} {h : GH} {r : Rep} {e : Ent} {p d : Value} (hp : SlR h 5 RulR p e.put) (hd : SlR h 1 IntR d e.drop) (he : entSmall e) (hr : RepOk r) (ho : r.out.length ≤ 800000) :
    RepCall A 47 [rptr A, entV e p d] h r (r.submit e).1 (SentQ (r.submit e).2.1 (r.submit e).2.2) := by
  refine RepCall.of [.agg (entC e p d)] Try.func47 (c := bodyOf Try.f47) (by kernel_rfl) Try.ntmps47 (fun _ _ => ⟨entC_ok hp hd _ _, trivial⟩) (by simp) fun w x hR => ?_
  have hb : ∀ code : Int, r.submitErr e = code → code ≠ 0 → r.submit e = (r, [], code) := fun code h1 h2 => by
    unfold Rep.submit
    rw [h1, if_pos h2]
  refine G.runX tabR_ok tm 0 100 (by kernel_rfl) ?_
  refine G.cond (!(roleI r.changing (Int.ofNat (r.n0 + 1)) r.view r.id == 1)) (by kernel_rfl) (fun hc => ?_) (fun hc => ?_)
  · rw [role_eq] at hc
    have hc' : r.role ≠ 1 := by simpa using hc
    rw [hb 50 (by simp only [Rep.submitErr, if_pos hc']) (by decide)]
    refine G.runE tm 100 ?_
    exact G.retRep Try.func47 Try.results47 (.tuple #[nilS, .int .i64 50]) (by kernel_rfl) r x (by kernel_rfl) (by kernel_rfl) rfl hR ⟨nilS, rfl, SlR.nil⟩
  rw [role_eq] at hc
  have hc1 : ¬ r.role ≠ 1 := by simpa using hc
  refine G.runX tabR_ok tm 0 100 (by kernel_rfl) ?_
  refine G.callV (f := 18) (svs := [.agg (entC e p d)]) (d := some 14) (by kernel_rfl) [entV e p d] (.bool (entRight e)) (by kernel_rfl) (by kernel_rfl) (by kernel_rfl) (fun w hw => f18_ok hp hd hw) ?_
  refine G.runX tabR_ok tm 0 100 (by kernel_rfl) ?_
  refine G.cond (!(entRight e)) (by kernel_rfl) (fun hc => ?_) (fun hc => ?_)
  · have hc' : entRight e = false := by simpa using hc
    rw [hb 10 (by simp only [Rep.submitErr, if_neg hc1, if_pos hc']) (by decide)]
    refine G.runE tm 100 ?_
    exact G.retRep Try.func47 Try.results47 (.tuple #[nilS, .int .i64 10]) (by kernel_rfl) r x (by kernel_rfl) (by kernel_rfl) rfl hR ⟨nilS, rfl, SlR.nil⟩
  have hc2 : ¬ entRight e = false := by simpa using hc
  refine G.runX tabR_ok tm 0 100 (by kernel_rfl) ?_
  have hlen : r.log.length ≤ 1000 := hr.log.1
  refine G.callRo (f := 98) (svs := [.agg (entC e p d)]) (d := some 18) (k := 0) (by kernel_rfl) (bi := some A.rb) (T := 135) (cs := repC A r x) (by kernel_rfl) [entV e p d] (.int .i64 (r.had e)) (by kernel_rfl) (by kernel_rfl) (by kernel_rfl)
    (fun rb h' w hle hro hs => f98_ok (c := r.commit) (v := x.lv) hro rfl rfl (hR.log.mono hle) (by omega) (hp.mono hle fun _ _ hh => hh) (hd.mono hle fun _ _ hh => hh) hs) ?_
  refine G.runX tabR_ok tm 0 100 (by kernel_rfl) ?_
  refine G.cond (!(r.had e == 0)) (by kernel_rfl) (fun hc => ?_) (fun hc => ?_)
  · have hc' : r.had e ≠ 0 := by simpa using hc
    rw [hb (r.had e) (by simp only [Rep.submitErr, if_neg hc1, if_neg hc2, if_pos hc']) hc']
    refine G.runE tm 100 ?_
    exact G.retRep Try.func47 Try.results47 (.tuple #[nilS, .int .i64 (r.had e)]) (by kernel_rfl) r x (by kernel_rfl) (by kernel_rfl) rfl hR ⟨nilS, rfl, SlR.nil⟩
  have hc3 : ¬ r.had e ≠ 0 := by simpa using hc
  refine G.runX tabR_ok tm 0 100 (by kernel_rfl) ?_
  refine G.cond ((r.log.length : Int) == 64) (by kernel_rfl) (fun hc => ?_) (fun hc => ?_)
  · have hc' : r.len = 64 := by simpa [Rep.len] using hc
    rw [hb 33 (by simp only [Rep.submitErr, if_neg hc1, if_neg hc2, if_neg hc3, if_pos hc']) (by decide)]
    refine G.runE tm 100 ?_
    exact G.retRep Try.func47 Try.results47 (.tuple #[nilS, .int .i64 33]) (by kernel_rfl) r x (by kernel_rfl) (by kernel_rfl) rfl hR ⟨nilS, rfl, SlR.nil⟩
  have hc4 : ¬ r.len = 64 := by simpa [Rep.len] using hc
  have hs : r.submit e = ({ r.submitOk e with out := [] }, (r.submitOk e).out, 0) := by
    have : ¬ r.submitErr e ≠ 0 := by simp only [Rep.submitErr, if_neg hc1, if_neg hc2, if_neg hc3, if_neg hc4]; simp
    unfold Rep.submit
    rw [if_neg this]
  rw [hs]
  refine G.runX tabR_ok tm 0 100 (by kernel_rfl) ?_
  refine G.draw [4] tm (by kernel_rfl) (by kernel_rfl) ?_
  refine GD.callJ tabR_ok (by kernel_rfl) 6 8 (f := 100) (svs := [.atom (.sl x.lv r.log.length)]) (dst := some 37) [x.lv] (by kernel_rfl) (by kernel_rfl) (by kernel_rfl) (by kernel_rfl) (by kernel_rfl) (fun h' v => EntsR h' v r.log ∧ (v = nilS ∨ ∃ a, v = .slice (some a) r.log.length r.log.length)) (fun w hw => (f100_ok hR.log hw).mono fun e w' ⟨v', g1, g2, g3, g4⟩ => ⟨v', h, g1, .of_below hw g2, g3, g4⟩) fun h2 v2 ⟨hv2, hfull⟩ hle2 => ⟨.one (.atom (.sl v2 r.log.length)), fun N β _ => SlR.sv hv2 N β, by kernel_rfl, by kernel_rfl, ?_⟩
  refine GD.freezeBox 5 39 (off := 0) (m := 1) (cp := 1) (bi := none) (T := 34) (cs := entC (entAt r e) p d) (vs := entL (entAt r e) p d) (by kernel_rfl) (by kernel_rfl) (by kernel_rfl) (by kernel_rfl) fun b h3 hle3 hb3 => ?_
  have hsm : entSmall (entAt r e) := he
  have hone : EntsR h3 (.slice (some ⟨b, 0, none⟩) 1 1) [entAt r e] := SlR.of_box (ListR.one ⟨p, d, rfl, (hp.mono hle2 fun _ _ hh => hh).mono hle3 fun _ _ hh => hh, (hd.mono hle2 fun _ _ hh => hh).mono hle3 fun _ _ hh => hh⟩) rfl hb3 (by decide)
  refine GD.one 9 (by kernel_rfl) (GDop.callP (f := 77) (svs := [.atom (.sl (.slice (some ⟨b, 0, none⟩) 1 1) 1)]) (dst := some 40) (by kernel_rfl) [.slice (some ⟨b, 0, none⟩) 1 1] (by kernel_rfl) (by kernel_rfl) (by kernel_rfl) (by kernel_rfl) (fun h' v => EntsR h' v [entAt r e]) (fun w hw => f77_ok hone (by simpa using hsm) (by simp) hw) fun h4 p4 hp4 hle4 => ⟨.one (.atom (.sl p4 1)), fun N β _ => SlR.sv hp4 N β, ?_⟩)
  refine GD.one 10 (by kernel_rfl) (GDop.appSl el22 (v := v2) (x := p4) (m := r.log.length) (q := 1) (d := some 41) (by kernel_rfl) (by kernel_rfl) ((hv2.mono hle3).mono hle4) hfull hp4 (fun _ _ hh => hh.one) (by simp only [List.length_singleton]; omega) (by decide) fun v5 h5 hle5 hv5 => ?_)
  refine GD.run (by kernel_rfl) 50 ?_
  refine GD.fin (by kernel_rfl) ?_
  refine G.runX tabR_ok tm 0 100 (by kernel_rfl) ?_
  refine G.draw [0, 4] tm (by kernel_rfl) (by kernel_rfl) ?_
  refine GD.autoT tabR_ok (by kernel_rfl) 8 (by kernel_rfl) (by kernel_rfl) ?_
  have hv5' : EntsR h5 v5 (r.log ++ [entAt r e]) := hv5.mono (GLe.refl _) fun _ _ hh => hh.mono hle5
  obtain ⟨vt, hvt, hrunt⟩ := SlR.tail hv5' Try.underlying22 z34 (k := r.log.length) (by simp)
  rw [List.drop_left] at hvt
  have hw1 : IntKind.i64.wrap (((r.log.length + 1 : Nat) : Int) - 1) = (r.log.length : Int) := by rw [IntWalk.i64_in _ (by omega)]; omega
  refine GD.one 5 (by kernel_rfl) (GDop.sem (m := valS (Instr.sliceAt 22 v5 (some (.int .i64 (IntKind.i64.wrap (((r.log.length + 1 : Nat) : Int) - 1)))) none none)) (dst := some 52) (g := none) (by kernel_rfl) (by kernel_rfl) vt (.atom (.sl vt 1)) (SlR.sv hvt) (says_of fun w _ => run_valS (by rw [hw1]; exact hrunt w)) ?_)
  refine GD.runT tabR_ok (by kernel_rfl) 50 ?_
  refine GD.fin (by kernel_rfl) ?_
  refine G.runX tabR_ok tm 0 100 (by kernel_rfl) ?_
  have hle : GLe h h5 := ((hle2.trans hle3).trans hle4).trans hle5
  have hR5 := hR.mono hle
  have hM : (⟨1, 0, 0, 0, ((r.log.length + 1 : Nat) : Int), r.commit, 0, [entAt r e]⟩ : Msg) = { (r.put e).told 1 with log := [{ e with view := r.view }] } := by simp [Rep.told, Rep.put, Rep.len, entAt]
  refine G.callRep (f := 101) (svs := [.agg (msgC ⟨1, 0, 0, 0, ((r.log.length + 1 : Nat) : Int), r.commit, 0, [entAt r e]⟩ vt)]) (d := some 56) rfl (by kernel_rfl) (by kernel_rfl) (by kernel_rfl) A (r.put e) (r.submitOk e) ⟨v5, x.ov, x.oxs, x.a, x.s, x.c⟩ (RepIn.ofN (r.log.length + 1) r.out.length (by kernel_rfl) (by kernel_rfl) (by kernel_rfl) (by kernel_rfl) (by kernel_rfl) (by simp [Rep.put]) rfl) [msgV ⟨1, 0, 0, 0, ((r.log.length + 1 : Nat) : Int), r.commit, 0, [entAt r e]⟩ vt] (by kernel_rfl) Q0
    ((f101_ok (r := r.put e) (m := ⟨1, 0, 0, 0, ((r.log.length + 1 : Nat) : Int), r.commit, 0, [entAt r e]⟩) (p := vt) hvt ⟨by simp, by simpa using hsm⟩ hr.n0 (by show r.out.length ≤ _; omega)).to (by rw [hM]; rfl)) ⟨hv5', hR5.out, hR5.ov, hR5.acks, hR5.starts, hR5.changes⟩ ?_
  rintro h6 x6 v6 hle6 hR6 rfl
  refine ⟨.tup [], unit_ok, ?_⟩
  refine G.runX tabR_ok tm 0 100 (by kernel_rfl) ?_
  refine G.callRep (f := 86) (svs := []) (d := some 58) rfl (by kernel_rfl) (by kernel_rfl) (by kernel_rfl) A (r.submitOk e) { r.submitOk e with out := [] } x6 ⟨by kernel_rfl, by kernel_rfl, by kernel_rfl, by kernel_rfl, by kernel_rfl⟩ [] (by kernel_rfl) _ (f86_ok (by
    have h1 := Rep.say_out (r.put e) { (r.put e).told 1 with log := [{ e with view := r.view }] }
    have h2 := hr.n0
    have h3 : (r.put e).out.length = r.out.length := rfl
    have h4 : (r.put e).n0 = r.n0 := rfl
    rw [h3, h4] at h1
    show (r.submitOk e).out.length ≤ _
    unfold Rep.submitOk
    omega)) hR6 ?_
  rintro h7 x7 v7 hle7 hR7 hv7
  obtain ⟨ao, cp, hv7'⟩ := hv7.isSlice
  refine ⟨.one (.atom (.sl v7 (r.submitOk e).out.length)), fun N β _ => ⟨rfl, ao, cp, hv7'⟩, ?_⟩
  refine G.runE tm 100 ?_
  exact G.retRep Try.func47 Try.results47 (.tuple #[v7, .int .i64 0]) (by kernel_rfl) { r.submitOk e with out := [] } x7 (by kernel_rfl) (by kernel_rfl) rfl hR7 ⟨v7, rfl, hv7⟩
end Go.Proofs.Ytkjahaoobdbffaa

/- The base of this seat's proofs, twenty-ninth part: memory that a callee has laid and hands over. -/
namespace Go.Proofs.Ytkjahaoobdbffaa
open Go Go.RowKit

theorem bx_append {k : Nat} {l1 l2 : List (Nat × Box)} {b : Box} (h : bx k (l1 ++ l2) = some b) : bx k l1 = some b ∨ bx k l2 = some b := by
  induction l1 with
  | nil => exact .inr h
  | cons p l1 ih =>
    obtain ⟨j, c⟩ := p
    rw [List.cons_append, bx_cons] at h
    rw [bx_cons]
    split at h
    · rename_i e; rw [if_pos e]; exact .inl h
    · rename_i e; rw [if_neg e]; exact ih h

theorem ow_append {k : Nat} {l1 l2 : List (Nat × Own)} {b : Own} (h : ow k (l1 ++ l2) = some b) : ow k l1 = some b ∨ ow k l2 = some b := by
  induction l1 with
  | nil => exact .inr h
  | cons p l1 ih =>
    obtain ⟨j, c⟩ := p
    rw [List.cons_append, ow_cons] at h
    rw [ow_cons]
    split at h
    · rename_i e; rw [if_pos e]; exact .inl h
    · rename_i e; rw [if_neg e]; exact ih h

def Mem.plain (m : Mem) : Bool := m.bs.all fun x => x.2.plain

/-- Memory that was laid by a callee. -/
structure Laid (h : GH) (w : World) (h' : GH) (w' : World) (m : Mem) : Prop where
  grow : Grow h w h' w'
  ok : MemOk h' w' m
  fresh : ∀ b ∈ m.inc, w.heap.size ≤ b

def putNew (s : S) (ko : Nat) (m : Mem) : S := { s with boxes := nums s.nb m.bs ++ s.boxes, nb := s.nb + m.bs.length, owns := numo ko m.os ++ s.owns }

theorem Mem.incB {m : Mem} {j : Nat} {x : Nat × BoxB} (h : m.bs[j]? = some x) : x.1 ∈ m.inc := by
  unfold Mem.inc
  exact List.mem_append_left _ (List.mem_map_of_mem (List.mem_of_getElem? h))
theorem Mem.incO {m : Mem} {j : Nat} {o : Own} {b : Nat} (h : m.os[j]? = some o) (hb : o.v.ownBlock = some b) : b ∈ m.inc := by
  unfold Mem.inc
  exact List.mem_append_right _ (List.mem_filterMap.2 ⟨o, List.mem_of_getElem? h, hb⟩)

theorem Sim.addMem {hE : GH} {w0 : World} {inc : List Nat} {n : Nat} {s : S} {h : GH} {β : Nat → Nat} {w : World} {tmps : Array Value} (hS : Sim hE w0 inc n s h β w tmps) {h' : GH} {w' : World} {m : Mem} (hl : Laid h w h' w' m) (hpl : m.plain = true) (ko : Nat) :
    ∃ β', Sim hE w0 inc n (putNew s ko m) h' β' w' tmps := by
  have hG := hS.grow hl.grow
  have hw0 : w0.heap.size ≤ w.heap.size := hS.frame.size
  refine ⟨fun k => if k < s.nb then β k else ((m.bs[k - s.nb]?).map (·.1)).getD 0, ?_⟩
  have hold : ∀ k, k < s.nb → (fun k => if k < s.nb then β k else ((m.bs[k - s.nb]?).map (·.1)).getD 0) k = β k := fun k hk => by simp [hk]
  have hnew : ∀ k x, s.nb ≤ k → m.bs[k - s.nb]? = some x → (fun k => if k < s.nb then β k else ((m.bs[k - s.nb]?).map (·.1)).getD 0) k = x.1 := fun k x hk hx => by
    simp only [if_neg (Nat.not_lt.2 hk), hx]; rfl
  generalize (fun k => if k < s.nb then β k else ((m.bs[k - s.nb]?).map (·.1)).getD 0) = β' at hold hnew ⊢
  -- where a box comes from
  have hcase : ∀ k b, bx k (nums s.nb m.bs ++ s.boxes) = some b → (s.nb ≤ k ∧ ∃ x, m.bs[k - s.nb]? = some x ∧ b = ⟨some x.1, x.2⟩ ∧ β' k = x.1 ∧ w.heap.size ≤ x.1) ∨ (bx k s.boxes = some b ∧ β' k = β k ∧ β k < w.heap.size) := fun k b hb => by
    rcases bx_append hb with hb | hb
    · obtain ⟨h1, x, h2, h3⟩ := bx_nums hb
      exact .inl ⟨h1, x, h2, h3, hnew k x h1 h2, hl.fresh _ (Mem.incB h2)⟩
    · exact .inr ⟨hb, hold k (hS.keys k b hb), (hS.box k b hb).lt⟩
  have hcaseO : ∀ k o, ow k (numo ko m.os ++ s.owns) = some o → (ko ≤ k ∧ m.os[k - ko]? = some o) ∨ ow k s.owns = some o := fun k o ho => (ow_append ho).imp ow_numo id
  have hltO : ∀ k o b, ow k s.owns = some o → o.v.ownBlock = some b → b < w.heap.size := fun k o b ho hb => ownsRow_lt (hS.own k o ho) hb
  refine ⟨hG.size, fun t => (hG.slots t).rename (Nat.le_add_right _ _) hold, ?_, ?_, ?_, ?_, hG.ghost, ?_, hG.frame, hG.gle, hG.gold, ?_, ?_, ?_⟩
  · intro k b hk
    rcases hcase k b hk with ⟨h1, x, h2, rfl, h4, h5⟩ | ⟨h1, h2, h3⟩
    · rw [h4]
      exact (hl.ok.box _ x h2).1.plain (List.all_eq_true.1 hpl x (List.mem_of_getElem? h2))
    · rw [h2]
      exact (hG.box k b h1).rename (Nat.le_add_right _ _) hold
  · intro k l b c hk hl' hkl
    rcases hcase k b hk with ⟨h1, x, h2, rfl, h4, h5⟩ | ⟨h1, h2, h3⟩ <;> rcases hcase l c hl' with ⟨g1, y, g2, rfl, g4, g5⟩ | ⟨g1, g2, g3⟩
    · rw [h4, g4]; exact hl.ok.inj _ _ x y h2 g2 (by omega)
    · rw [h4, g2]; omega
    · rw [h2, g4]; omega
    · rw [h2, g2]; exact hS.inj k l b c h1 g1 hkl
  · intro k b hk
    rcases hcase k b hk with ⟨h1, x, h2, rfl, h4, h5⟩ | ⟨h1, h2, h3⟩
    · have := (List.getElem?_eq_some_iff.1 h2).1
      show k < s.nb + m.bs.length
      omega
    · have := hS.keys k b h1
      show k < s.nb + m.bs.length
      omega
  · intro k b hk
    rcases hcase k b hk with ⟨h1, x, h2, rfl, h4, h5⟩ | ⟨h1, h2, h3⟩
    · exact ⟨h4, .inr (Nat.le_trans hw0 h5)⟩
    · have := hS.fresh k b h1
      rw [h2]; exact this
  · intro k b hk
    rcases hcase k b hk with ⟨h1, x, h2, rfl, h4, h5⟩ | ⟨h1, h2, h3⟩
    · rw [h4]; exact (hl.ok.box _ x h2).2
    · rw [h2]; exact hG.gno k b h1
  · intro k o ho
    rcases hcaseO k o ho with ⟨h1, h2⟩ | h1
    · exact hl.ok.own _ o h2
    · exact hG.own k o h1
  · intro k o b ho hb
    rcases hcaseO k o ho with ⟨h1, h2⟩ | h1
    · have hfb := hl.fresh b (Mem.incO h2 hb)
      refine ⟨(hl.ok.ownB _ o b h2 hb).1, fun j x hj => ?_, .inr (Nat.le_trans hw0 hfb)⟩
      rcases hcase j x hj with ⟨g1, y, g2, rfl, g4, g5⟩ | ⟨g1, g2, g3⟩
      · rw [g4]; exact (hl.ok.ownB _ o b h2 hb).2 _ y g2
      · rw [g2]; omega
    · have hlt := hltO k o b h1 hb
      obtain ⟨e1, e2, e3⟩ := hG.ownB k o b h1 hb
      refine ⟨e1, fun j x hj => ?_, e3⟩
      rcases hcase j x hj with ⟨g1, y, g2, rfl, g4, g5⟩ | ⟨g1, g2, g3⟩
      · rw [g4]; omega
      · rw [g2]; exact e2 j x g1
  · intro k l o q b ho hq hkl hb
    rcases hcaseO k o ho with ⟨h1, h2⟩ | h1 <;> rcases hcaseO l q hq with ⟨g1, g2⟩ | g1
    · exact hl.ok.ownI _ _ o q b h2 g2 (by omega) hb
    · intro e
      have e1 := hl.fresh b (Mem.incO h2 hb)
      have e2 := hltO l q b g1 e
      omega
    · intro e
      have e1 := hl.fresh b (Mem.incO g2 e)
      have e2 := hltO k o b h1 hb
      omega
    · exact hS.ownI k l o q b h1 g1 hkl hb

/-- **A call that lays memory and hands it over.** -/
theorem G.callNew {C : Ctx} {h : GH} {c : Cfg} {f : FuncId} {svs : List SV1} {d : Option Nat} (ko : Nat) (hc : callView c = some ⟨f, svs, d, none⟩) (vals : List Value) (hv : svVals svs = some vals) (he : enters C.P f = true) (hd : dstOk C.n d = true) (Q : GH → Value → Mem → Prop)
    (hcall : ∀ w, Sub h w → Calls C.P f vals.toArray w fun e w' => ∃ v h' m, e = .returned v ∧ Laid h w h' w' m ∧ Q h' v m)
    (hk : ∀ h' v m, Q h' v m → GLe h h' → m.plain = true ∧ ∃ sv, (∀ N β tmps, SVOk N β tmps sv v) ∧ G C h' (afterOp (withS c (putNew c.s ko m)) sv)) : G C h c := by
  refine G.callX hc he hd fun β w tmps l hS hl => ?_
  rw [svVals_ok hv hl]
  refine (hcall w hS.sub).mono ?_
  rintro e w' ⟨v, h', m, rfl, hlaid, hq⟩
  obtain ⟨hpl, sv, h1, h2⟩ := hk h' v m hq hlaid.grow.le
  obtain ⟨β', hS'⟩ := hS.addMem hlaid hpl ko
  exact ⟨v, rfl, h', _, β', sv, hS', fun _ => h1 _ _ _, h2⟩

/-- What a call lays, told at its end. -/
theorem G.retNew {C : Ctx} {h : GH} {c : Cfg} {fn : Func} {rs : Array ResultVar} (hf : C.P.funcs[C.f]? = some fn) (hrs : fn.results = rs) (v : Value) (hv : retVal C.P c rs.toList = some v) (hinc : C.inc = []) (ks kos : List Nat) (m : Mem)
    (hb : ∀ β w tmps, Sim C.hE C.w0 C.inc C.n c.s h β w tmps → ∃ bs os, pickB c.s.boxes ks = some bs ∧ pickO c.s.owns kos = some os ∧ memOf β ks bs os = m) (hk : nodupB ks = true) (hko : nodupB kos = true)
    (H : ∀ w', Laid C.hE C.w0 h w' m → C.R (.returned v) w') : G C h c := by
  intro β w tmps hS
  obtain ⟨bs, os, h1, h2, rfl⟩ := hb β w tmps hS
  have hm := hS.memOk (ro := []) h1 h2 hk hko rfl rfl
  rw [roH_nil] at hm
  have hfr : ∀ b ∈ (memOf β ks bs os).inc, C.w0.heap.size ≤ b := fun b hb => by
    rcases memInc h1 h2 hb with ⟨k', y, h7, h8, h9⟩ | ⟨k', o, h7, h8, h9⟩
    · have := hS.fresh k' y h8
      subst h9
      cases hy : y.inc with
      | none => rw [hy] at this; exact this
      | some mm =>
        rw [hy] at this
        obtain ⟨e1, e2 | e2⟩ := this
        · rw [hinc] at e2; cases e2
        · rw [e1]; exact e2
    · rcases (hS.ownB k' o b h8 h9).2.2 with e2 | e2
      · rw [hinc] at e2; cases e2
      · exact e2
  have hg : Grow C.hE C.w0 h w := by
    have hfm := hS.frame
    rw [hinc] at hfm
    exact ⟨Frm.below hfm, hS.gle, fun b hb => hS.gold b hb (by rw [hinc]; simp), hS.ghost⟩
  have hL : Laid C.hE C.w0 h w (memOf β ks bs os) := ⟨hg, hm, hfr⟩
  obtain ⟨todo, s⟩ := c
  subst hrs
  unfold retVal at hv
  simp only at hv
  split at hv
  · obtain ⟨vs, h1, rfl⟩ := map_some hv
    exact Reach.ret hf (results_of (resVals_ok hS _ _ h1)) (H w hL)
  · obtain ⟨vs, h1, rfl⟩ := map_some hv
    exact Reach.fall hf (results_of (resVals_ok hS _ _ h1)) (H w hL)
  · simp at hv

/-- A block is called by its number. -/
theorem G.nameBox {C : Ctx} {h : GH} {c : Cfg} (k t : Nat) {x : BoxB} (hb : bx k c.s.boxes = some ⟨none, x⟩) (hl : lk t c.s.slots = .one (.atom (.ptr k 0)))
    (hk : ∀ b, G C h ⟨c.todo, { c.s with boxes := (k, ⟨some b, x⟩) :: c.s.boxes, slots := (t, .one (.atom (.raw (.pointer (some ⟨b, 0, none⟩))))) :: c.s.slots }⟩) : G C h c := by
  intro β w tmps hS
  refine hk (β k) β w tmps ⟨hS.size, fun y => ?_, ?_, ?_, ?_, ?_, hS.ghost, ?_, hS.frame, hS.gle, hS.gold, hS.own, ?_, hS.ownI⟩
  · show SVOk c.s.nb β tmps (lk y ((t, .one (.atom (.raw (.pointer (some ⟨β k, 0, none⟩))))) :: c.s.slots)) _
    rw [lk_put]
    by_cases e : t = y
    · subst e
      rw [if_pos rfl]
      have h1 := hS.slots t
      rw [hl] at h1
      have h3 : tmps.getD t undef = .pointer (some ⟨β k, 0, none⟩) := h1.1
      exact ⟨h3, rfl⟩
    · rw [if_neg e]
      have hs := hS.slots y
      cases hx : lk y c.s.slots with
      | one v => rw [hx] at hs; exact hs
      | tup v => rw [hx] at hs; exact hs
      | gd g b v =>
        rw [hx] at hs
        simp only
        split
        · exact trivial
        · exact hs
  · intro j b hj
    simp only [bx_cons] at hj
    split at hj
    · rename_i e; subst e
      simp only [Option.some.injEq] at hj; subst hj
      exact hS.box k ⟨none, x⟩ hb
    · exact hS.box j b hj
  · intro j l b b' hj hl' hne
    simp only [bx_cons] at hj hl'
    have hx : ∀ j b, (if k = j then some (⟨some (β k), x⟩ : Box) else bx j c.s.boxes) = some b → ∃ b', bx j c.s.boxes = some b' := fun j b hj => by
      split at hj
      · rename_i e; subst e; exact ⟨_, hb⟩
      · exact ⟨b, hj⟩
    obtain ⟨b1, h1⟩ := hx j b hj
    obtain ⟨b2, h2⟩ := hx l b' hl'
    exact hS.inj j l b1 b2 h1 h2 hne
  · intro j b hj
    simp only [bx_cons] at hj
    split at hj
    · rename_i e; subst e; exact hS.keys k _ hb
    · exact hS.keys j b hj
  · intro j b hj
    simp only [bx_cons] at hj
    split at hj
    · rename_i e; subst e
      simp only [Option.some.injEq] at hj; subst hj
      exact ⟨rfl, .inr (hS.fresh k _ hb)⟩
    · exact hS.fresh j b hj
  · intro j b hj
    simp only [bx_cons] at hj
    split at hj
    · rename_i e; subst e; exact hS.gno k _ hb
    · exact hS.gno j b hj
  · intro j o b ho hob
    obtain ⟨h1, h2, h3⟩ := hS.ownB j o b ho hob
    refine ⟨h1, fun i y hi => ?_, h3⟩
    simp only [bx_cons] at hi
    split at hi
    · rename_i e; subst e; exact h2 k _ hb
    · exact h2 i y hi
end Go.Proofs.Ytkjahaoobdbffaa

/- The replica in memory, wherever it lies: calls of its methods. -/
namespace Go.Proofs.Ytkjahaoobdbffaa
open Go Go.RowKit
attribute [local irreducible] G GD GDop

structure RepAt (k0 k1 k2 k3 ko : Nat) (A : Adr) (r : Rep) (x : RMem) (s : S) : Prop where
  b0 : bx k0 s.boxes = some ⟨some A.rb, .lit 135 (repC A r x)⟩
  b1 : bx k1 s.boxes = some ⟨some A.ab, .obj x.a⟩
  b2 : bx k2 s.boxes = some ⟨some A.sb, .obj x.s⟩
  b3 : bx k3 s.boxes = some ⟨some A.cb, .obj x.c⟩
  o0 : ow ko s.owns = some ⟨45, 8, x.ov, r.out.length, x.oxs⟩

theorem RepAt.pick {k0 k1 k2 k3 ko : Nat} {A : Adr} {r : Rep} {x : RMem} {s : S} (hi : RepAt k0 k1 k2 k3 ko A r x s) (hnd : nodupB [k0, k1, k2, k3] = true) : pickB s.boxes [k0, k1, k2, k3] = some (repB A r x) ∧ pickO s.owns [ko] = some (repO r x) ∧ handOk s [k0, k1, k2, k3] [ko] [] = true := by
  refine ⟨?_, ?_, by simp only [handOk, hnd]; rfl⟩
  · simp only [pickB, hi.b0, hi.b1, hi.b2, hi.b3, repB]
    rfl
  · simp only [pickO, hi.o0, repO]

theorem RepAt.memOf {k0 k1 k2 k3 ko : Nat} {A : Adr} {r : Rep} {x : RMem} {s : S} (hi : RepAt k0 k1 k2 k3 ko A r x s) {hE : GH} {w0 : World} {inc : List Nat} {n : Nat} {h : GH} {β : Nat → Nat} {w : World} {tmps : Array Value} (hS : Sim hE w0 inc n s h β w tmps) (r' : Rep) (x' : RMem) :
    Ytkjahaoobdbffaa.memOf β [k0, k1, k2, k3] (repB A r' x') (repO r' x') = repM A r' x' := by
  have h0 := hS.fresh k0 _ hi.b0
  have h1 := hS.fresh k1 _ hi.b1
  have h2 := hS.fresh k2 _ hi.b2
  have h3 := hS.fresh k3 _ hi.b3
  simp only at h0 h1 h2 h3
  simp [Ytkjahaoobdbffaa.memOf, repB, repM, repO, h0.1, h1.1, h2.1, h3.1]

def repPutK (k0 k1 k2 k3 ko : Nat) (A : Adr) (s : S) (r : Rep) (x : RMem) : S := putMem s [k0, k1, k2, k3] [ko] (repB A r x) (repO r x)

/-- **A call of a method that writes the replica.** -/
theorem G.callRepK {C : Ctx} {h : GH} {c : Cfg} {f : FuncId} {svs : List SV1} {d : Option Nat} (k0 k1 k2 k3 ko : Nat) (hnd : nodupB [k0, k1, k2, k3] = true) (hP : C.P = Try.prog) (hc : callView c = some ⟨f, .atom (.ptr k0 0) :: svs, d, none⟩) (he : enters Try.prog f = true) (hd : dstOk C.n d = true) (A : Adr) (r r' : Rep) (x : RMem) (hi : RepAt k0 k1 k2 k3 ko A r x c.s) (vals : List Value) (hv : svVals svs = some vals)
    (Q : GH → Value → Prop) (hcall : RepCall A f (rptr A :: vals) h r r' Q) (hR : RepR h r x)
    (hk : ∀ h' x' v, GLe h h' → RepR h' r' x' → Q h' v → ∃ sv, (∀ N β tmps, SVOk N β tmps sv v) ∧ G C h' (afterOp (withS c (repPutK k0 k1 k2 k3 ko A c.s r' x')) sv)) : G C h c := by
  obtain ⟨P, fid, hE, w0, inc, n, R⟩ := C
  simp only at hP; subst hP
  obtain ⟨hb, ho, hh⟩ := hi.pick hnd
  refine G.callM [k0, k1, k2, k3] [ko] [] hc he hd hb ho hh (fun h' v bs os => ∃ x', GLe h h' ∧ RepR h' r' x' ∧ Q h' v ∧ bs = repB A r' x' ∧ os = repO r' x') (fun β w tmps l hS hl hsub hmem => ?_) ?_
  · rw [roH_nil] at hmem hsub ⊢
    rw [hi.memOf hS] at hmem ⊢
    have hl' : l = rptr A :: vals := by
      match l, hl with
      | y :: ys, hl =>
        have h1 : y = rptr A := by
          have := hl.1
          simp only [SV1Ok, CellOk] at this
          rw [this.1]
          have h0 := hS.fresh k0 _ hi.b0
          simp only at h0
          simp [rptr, h0.1]
        rw [h1, svVals_ok hv hl.2]
    subst hl'
    refine (hcall w x hR hmem hsub).mono ?_
    rintro e w' ⟨x', h', v, rfl, hm, hR', hQ⟩
    refine ⟨v, repB A r' x', repO r' x', h', rfl, rfl, rfl, ?_, x', ?_⟩
    · rw [hi.memOf hS]; exact hm
    · rw [hideH_nil]; exact ⟨hm.le, hR', hQ, rfl, rfl⟩
  · rintro h' v bs os ⟨x', hle, hR', hQ, rfl, rfl⟩ -
    exact hk h' x' v hle hR' hQ

theorem GDop.callRepK {C : Ctx} {h0 h : GH} {ops : Array Oper} {k : List Item} {kl : List Nat} {c : DCfg} {i : Nat} {f : FuncId} {svs : List SV1} {d : Option Nat} (k0 k1 k2 k3 ko : Nat) (hnd : nodupB [k0, k1, k2, k3] = true) (hP : C.P = Try.prog) (hc : callAtD ops c i = some ⟨f, .atom (.ptr k0 0) :: svs, d, none⟩) (he : enters Try.prog f = true) (hd : dstOk C.n d = true) (hlv : liveAll kl c.s = true) (hdk : disj kl [k0, k1, k2, k3] = true) (A : Adr) (r r' : Rep) (x : RMem) (hi : RepAt k0 k1 k2 k3 ko A r x c.s) (vals : List Value) (hv : svVals svs = some vals)
    (Q : GH → Value → Prop) (hcall : RepCall A f (rptr A :: vals) h r r' Q) (hR : RepR h r x)
    (hk : ∀ h' x' v, GLe h h' → RepR h' r' x' → Q h' v → ∃ sv, (∀ N β tmps, SVOk N β tmps sv v) ∧ GD C h0 h' ops k kl (afterN ops c i (repPutK k0 k1 k2 k3 ko A c.s r' x') sv)) : GDop C h0 h ops k kl c i := by
  obtain ⟨P, fid, hE, w0, inc, n, R⟩ := C
  simp only at hP; subst hP
  obtain ⟨hb, ho, hh⟩ := hi.pick hnd
  refine GDop.callM [k0, k1, k2, k3] [ko] [] hc he hd hb ho hh hlv hdk (fun h' v bs os => ∃ x', GLe h h' ∧ RepR h' r' x' ∧ Q h' v ∧ bs = repB A r' x' ∧ os = repO r' x') (fun β w tmps l hS hl hsub hmem => ?_) ?_
  · rw [roH_nil] at hmem hsub ⊢
    rw [hi.memOf hS] at hmem ⊢
    have hl' : l = rptr A :: vals := by
      match l, hl with
      | y :: ys, hl =>
        have h1 : y = rptr A := by
          have := hl.1
          simp only [SV1Ok, CellOk] at this
          rw [this.1]
          have h0 := hS.fresh k0 _ hi.b0
          simp only at h0
          simp [rptr, h0.1]
        rw [h1, svVals_ok hv hl.2]
    subst hl'
    refine (hcall w x hR hmem hsub).mono ?_
    rintro e w' ⟨x', h', v, rfl, hm, hR', hQ⟩
    refine ⟨v, repB A r' x', repO r' x', h', rfl, rfl, rfl, ?_, x', ?_⟩
    · rw [hi.memOf hS]; exact hm
    · rw [hideH_nil]; exact ⟨hm.le, hR', hQ, rfl, rfl⟩
  · rintro h' v bs os ⟨x', hle, hR', hQ, rfl, rfl⟩ -
    exact hk h' x' v hle hR' hQ

end Go.Proofs.Ytkjahaoobdbffaa

/- The replica in memory: its state; a new one. -/
namespace Go.Proofs.Ytkjahaoobdbffaa
open Go Go.RowKit
attribute [local irreducible] G GD GDop

def Rep.sta (r : Rep) : Sta := ⟨r.view, r.normal, r.commit, r.active, r.log⟩

theorem f25_ok {A : Adr} {h : GH} {r : Rep} (hr : LogOk r.log) : RepCall A 25 [rptr A] h r r fun h' v => ∃ p, v = staV r.sta p ∧ EntsR h' p r.log := by
  refine RepCall.of [] Try.func25 (c := bodyOf Try.f25) (by kernel_rfl) Try.ntmps25 (fun _ _ => trivial) (by simp) fun w x hR => ?_
  refine G.runX tabR_ok tm 0 100 (by kernel_rfl) ?_
  refine G.callP (f := 77) (svs := [.atom (.sl x.lv r.log.length)]) (d := some 10) (by kernel_rfl) [x.lv] (by kernel_rfl) (by kernel_rfl) (by kernel_rfl) (fun h' v => EntsR h' v r.log) (fun w hw => f77_ok hR.log hr.2 (by have := hr.1; omega) hw) fun h2 p2 hp2 hle2 => ⟨.one (.atom (.sl p2 r.log.length)), fun N β _ => SlR.sv hp2 N β, ?_⟩
  refine G.runX tabR_ok tm 0 100 (by kernel_rfl) ?_
  exact G.retRep Try.func25 Try.results25 (staV r.sta p2) (by kernel_rfl) r x (by kernel_rfl) (by kernel_rfl) rfl (hR.mono hle2) ⟨p2, rfl, hp2⟩

theorem hk_aux {C : Ctx} {h : GH} {c : Cfg} {t b off : Nat} (hk : G C h ⟨c.todo, { c.s with slots := (t, .one (.atom (.raw (.pointer (some ⟨b, off, none⟩))))) :: c.s.slots }⟩) {β : Nat → Nat} {w : World} {tmps : Array Value} (hS : Sim C.hE C.w0 C.inc C.n c.s h β w tmps) (h3 : tmps.getD t undef = .pointer (some ⟨b, off, none⟩)) : Reach C tmps c.todo w := by
  unfold G at hk
  refine hk β w tmps ⟨hS.size, fun y => ?_, hS.box, hS.inj, hS.keys, hS.fresh, hS.ghost, hS.gno, hS.frame, hS.gle, hS.gold, hS.own, hS.ownB, hS.ownI⟩
  show SVOk c.s.nb β tmps (lk y ((t, .one (.atom (.raw (.pointer (some ⟨b, off, none⟩))))) :: c.s.slots)) _
  rw [lk_put]
  by_cases e : t = y
  · subst e
    rw [if_pos rfl]
    exact ⟨h3, rfl⟩
  · rw [if_neg e]
    have hs := hS.slots y
    cases hx : lk y c.s.slots with
    | one v => rw [hx] at hs; exact hs
    | tup v => rw [hx] at hs; exact hs
    | gd g b v =>
      rw [hx] at hs
      simp only
      split
      · exact trivial
      · exact hs

theorem G.fromPtr {C : Ctx} {h : GH} {c : Cfg} (t k : Nat) {b off : Nat} {x : BoxB} (hl : lk t c.s.slots = .one (.atom (.ptr k off))) (hb : bx k c.s.boxes = some ⟨some b, x⟩)
    (hk : G C h ⟨c.todo, { c.s with slots := (t, .one (.atom (.raw (.pointer (some ⟨b, off, none⟩))))) :: c.s.slots }⟩) : G C h c := by
  rw [G] 
  intro β w tmps hS
  have hβ : β k = b := (hS.fresh k _ hb).1
  refine hk_aux hk hS ?_
  have h1 := hS.slots t
  rw [hl] at h1
  have h3 : tmps.getD t undef = .pointer (some ⟨β k, off, none⟩) := h1.1
  rw [hβ] at h3
  exact h3

def Rep.new (n0 : Nat) (id t : Int) (s : Sta) : Rep := ⟨n0, id, t, s.view, s.normal, s.commit, s.active, s.log, !(s.normal == s.view), [], [], [], false, 0, []⟩

theorem G.retRepNew (k0 k1 k2 k3 ko : Nat) (hnd : nodupB [k0, k1, k2, k3] = true) {C : Ctx} {h : GH} {c : Cfg} {fn : Func} {rs : Array ResultVar} (hP : C.P = Try.prog) (hf : Try.prog.funcs[C.f]? = some fn) (hrs : fn.results = rs) (v : Value) (hv : retVal Try.prog c rs.toList = some v) (hinc : C.inc = []) (A : Adr) (r : Rep) (x : RMem) (hi : RepAt k0 k1 k2 k3 ko A r x c.s)
    (H : ∀ w', Laid C.hE C.w0 h w' (repM A r x) → C.R (.returned v) w') : G C h c := by
  obtain ⟨P, fid, hE, w0, inc, n, R⟩ := C
  simp only at hP; subst hP
  exact G.retNew hf hrs v hv hinc [k0, k1, k2, k3] [ko] (repM A r x) (fun β w tmps hS => ⟨_, _, (hi.pick hnd).1, (hi.pick hnd).2.1, hi.memOf hS _ _⟩) hnd rfl H

set_option maxHeartbeats 4000000 in
theorem f23_ok {h : GH} {w : World} {n id t : Int} {s : Sta} {p : Value} (hp : EntsR h p s.log) (hs : Sub h w) :
    Calls Try.prog 23 #[.agg #[.int .i64 n, .int .i64 id, .int .i64 t], staV s p] w fun e w' =>
      ((cfgRight n id t && staRight s) = false ∧ e = .returned (.tuple #[.pointer none, .int .i64 10]) ∧ Below w.heap.size w w') ∨
      ((cfgRight n id t && staRight s) = true ∧ ∃ n0 A x h', n = Int.ofNat (n0 + 1) ∧ e = .returned (.tuple #[rptr A, .int .i64 0]) ∧ Laid h w h' w' (repM A (Rep.new n0 id t s) x) ∧ RepR h' (Rep.new n0 id t s) x) := by
  refine Calls.enter [.agg [.int .i64 n, .int .i64 id, .int .i64 t], .agg (staC s p)] Try.func23 (c := bodyOf Try.f23) (by kernel_rfl) Try.ntmps23 ⟨⟨_, rfl, rfl, rfl, rfl, trivial⟩, staC_ok hp _ _, trivial⟩ (by simp) hs ?_
  refine G.runX tabR_ok tm 0 100 (by kernel_rfl) ?_
  refine G.callV (f := 73) (svs := [.agg [.int .i64 n, .int .i64 id, .int .i64 t]]) (d := some 8) (by kernel_rfl) [.agg #[.int .i64 n, .int .i64 id, .int .i64 t]] (.bool (cfgRight n id t)) (by kernel_rfl) (by kernel_rfl) (by kernel_rfl) (fun w hw => f73_ok hw) ?_
  refine G.runX tabR_ok tm 0 100 (by kernel_rfl) ?_
  refine G.callGV (f := 74) (svs := [.agg (staC s p)]) (d := 12) (tg := 10) (want := false) (by kernel_rfl) [staV s p] (.bool (staRight s)) (by kernel_rfl) (by kernel_rfl) (by kernel_rfl) (says_of fun w hw => f74_ok hp hw) ?_
  refine G.runX tabR_ok tm 0 100 (by kernel_rfl) ?_
  refine G.cond (!(cfgRight n id t) || !(staRight s)) (by kernel_rfl) (fun hc => ?_) (fun hc => ?_)
  · refine G.runE tm 100 ?_
    exact G.ret Try.func23 Try.results23 (.tuple #[.pointer none, .int .i64 10]) (by kernel_rfl) fun w' hf _ => .inl ⟨by
      cases h1 : cfgRight n id t <;> cases h2 : staRight s <;> simp_all, rfl, hf.below⟩
  refine G.runX tabR_ok tm 0 100 (by kernel_rfl) ?_
  have hok : (cfgRight n id t && staRight s) = true := by cases h1 : cfgRight n id t <;> cases h2 : staRight s <;> simp_all
  obtain ⟨n0, hn0⟩ : ∃ n0 : Nat, n = Int.ofNat (n0 + 1) := by
    have h1 : cfgRight n id t = true := by simp only [Bool.and_eq_true] at hok; exact hok.1
    simp only [cfgRight, Bool.and_eq_true, Bool.or_eq_true, beq_iff_eq] at h1
    rcases h1.1.1.1.1 with (h2 | h2) | h2
    · exact ⟨2, h2⟩
    · exact ⟨4, h2⟩
    · exact ⟨6, h2⟩
  have hlen : s.log.length ≤ 64 := by
    have h1 : staRight s = true := by simp only [Bool.and_eq_true] at hok; exact hok.2
    simp only [staRight, Bool.and_eq_true, decide_eq_true_eq] at h1
    have := h1.1.1.1.1.1.2
    omega
  subst hn0
  refine G.newObj (m := valS (Instr.makeMap 131 none)) (d := some 22) (by kernel_rfl) (by kernel_rfl) (.map #[] 0) (fun b => .map (some b)) (fun b => .atom (.raw (.map (some b)))) (fun b _ _ => ⟨rfl, rfl⟩) (fun w => run_valS (run_makeMap 131 w)) fun ab => ?_
  refine G.newObj (m := valS (Instr.makeMap 132 none)) (d := some 23) (by kernel_rfl) (by kernel_rfl) (.map #[] 0) (fun b => .map (some b)) (fun b => .atom (.raw (.map (some b)))) (fun b _ _ => ⟨rfl, rfl⟩) (fun w => run_valS (run_makeMap 132 w)) fun sb => ?_
  refine G.newObj (m := valS (Instr.makeMap 133 none)) (d := some 24) (by kernel_rfl) (by kernel_rfl) (.map #[] 0) (fun b => .map (some b)) (fun b => .atom (.raw (.map (some b)))) (fun b _ _ => ⟨rfl, rfl⟩) (fun w => run_valS (run_makeMap 133 w)) fun cb => ?_
  refine G.runX tabR_ok tm 0 100 (by kernel_rfl) ?_
  refine G.nameBox 5 26 (x := .lit 135 [.int .i64 (Int.ofNat (n0 + 1)), .int .i64 id, .int .i64 t, .int .i64 s.view, .int .i64 s.normal, .int .i64 s.commit, .int .i64 s.active, .sl p s.log.length, .bool (!(s.normal == s.view)), .raw (.map (some ab)), .raw (.map (some sb)), .raw (.map (some cb)), .bool false, .int .i64 0, .sl nilS 0]) (by kernel_rfl) (by kernel_rfl) fun rb => ?_
  refine G.ownNil 0 34 9 ?_
  refine G.callM [] [0] [] (f := 75) (svs := [.atom (.sl p s.log.length)]) (d := some 30) (by kernel_rfl) (by kernel_rfl) (by kernel_rfl) (bs := []) (os := [⟨34, 9, nilS, 0, []⟩]) (by kernel_rfl) (by kernel_rfl) (by kernel_rfl)
    (fun h' x bs os => h' = h ∧ bs = [] ∧ (∃ a c, x = .slice a s.log.length c) ∧ ∃ xs, os = [⟨34, 9, x, s.log.length, xs⟩] ∧ ListR 9 (EntR h) xs s.log) (fun β w tmps l' hS hl' hsub hmem => ?_) ?_
  · obtain ⟨a1, rfl, ⟨rfl, -⟩⟩ := args1 hl'
    refine (f75_ok (hp.mono (hS.roLe [])) (by omega) hmem hsub).mono ?_
    rintro e w' ⟨v', xs, rfl, hmend, hxs, hform⟩
    exact ⟨_, [], [⟨34, 9, v', s.log.length, xs⟩], _, rfl, rfl, rfl, hmend, hS.hideRo rfl, rfl, hform, xs, rfl, hxs.mono fun _ _ hh => by have := hS.hideRo (ro := []) rfl; rw [hideH_nil] at this; rw [← this]; exact hh⟩
  rintro h' v bs os ⟨rfl, rfl, ⟨ao, cp, hx⟩, xs, rfl, hxs⟩ -
  refine ⟨.one (.atom (.sl v s.log.length)), fun N β _ => ⟨rfl, ao, cp, hx⟩, ?_⟩
  refine G.runX tabR_ok tm 0 100 (by kernel_rfl) ?_
  refine G.freeze 0 (e := 34) (sz := 9) (v := v) (m := s.log.length) (xs := xs) (by kernel_rfl) fun h1 hle1 hf _ => ?_
  have hlog : EntsR h1 v s.log := SlR.of_freeze hf (hxs.mono fun _ _ h => h.mono hle1) rfl (by omega)
  refine G.ownNil 1 45 8 ?_
  have hR0 : RepR h1 (Rep.new n0 id t s) ⟨v, nilS, [], .map #[] 0, .map #[] 0, .map #[] 0⟩ := ⟨hlog, ListR.nil, ⟨none, 0, rfl⟩, IMap.nil 0, IMap.nil 0, IMap.nil 0⟩
  refine G.callRepK 5 2 3 4 1 (by kernel_rfl) (f := 76) (svs := []) (d := some 35) rfl (by kernel_rfl) (by kernel_rfl) (by kernel_rfl) ⟨rb, ab, sb, cb⟩ (Rep.new n0 id t s) (Rep.new n0 id t s) ⟨v, nilS, [], .map #[] 0, .map #[] 0, .map #[] 0⟩ ⟨by kernel_rfl, by kernel_rfl, by kernel_rfl, by kernel_rfl, by kernel_rfl⟩ [] (by kernel_rfl) Q0 (f76_ok.to rfl) hR0 ?_
  rintro h2 x2 v2 hle2 hR2 rfl
  refine ⟨.tup [], unit_ok, ?_⟩
  refine G.runX tabR_ok tm 0 100 (by kernel_rfl) ?_
  refine G.fromPtr 4 5 (b := rb) (off := 0) (x := .lit 135 (repC ⟨rb, ab, sb, cb⟩ (Rep.new n0 id t s) x2)) (by kernel_rfl) (by kernel_rfl) ?_
  exact G.retRepNew 5 2 3 4 1 rfl rfl Try.func23 Try.results23 (.tuple #[rptr ⟨rb, ab, sb, cb⟩, .int .i64 0]) (by kernel_rfl) rfl ⟨rb, ab, sb, cb⟩ (Rep.new n0 id t s) x2 ⟨by kernel_rfl, by kernel_rfl, by kernel_rfl, by kernel_rfl, by kernel_rfl⟩ fun w' hL => .inr ⟨hok, n0, ⟨rb, ab, sb, cb⟩, x2, h2, rfl, rfl, hL, hR2⟩
end Go.Proofs.Ytkjahaoobdbffaa

/- The base of this seat's proofs, thirtieth part: calls under a guard that is known to hold. -/
namespace Go.Proofs.Ytkjahaoobdbffaa
open Go Go.RowKit

def knownG (s : S) (tg : Nat) (want : Bool) : Bool := match lk tg s.slots with
  | .one (.atom (.bool b)) => b == want
  | _ => false

theorem knownG_ok {hE : GH} {w0 : World} {inc : List Nat} {n : Nat} {s : S} {h : GH} {β : Nat → Nat} {w : World} {tmps : Array Value} (hS : Sim hE w0 inc n s h β w tmps) {tg : Nat} {want : Bool} (hk : knownG s tg want = true) : tmps.getD tg undef = .bool want := by
  unfold knownG at hk
  split at hk
  · rename_i b hl
    have h1 := hS.slots tg
    rw [hl] at h1
    simp only [beq_iff_eq] at hk
    subst hk
    exact h1
  · cases hk

theorem G.callXG {C : Ctx} {h : GH} {c : Cfg} {f : FuncId} {svs : List SV1} {d : Option Nat} {tg : Nat} {want : Bool} (hc : callView c = some ⟨f, svs, d, some (tg, want)⟩) (he : enters C.P f = true) (hd : dstOk C.n d = true) (htgn : Nat.blt tg C.n = true) (hkn : knownG c.s tg want = true)
    (hk : ∀ β w tmps l, Sim C.hE C.w0 C.inc C.n c.s h β w tmps → SV1sOk c.s.nb β svs l → Calls C.P f l.toArray w fun e w' => ∃ v, e = .returned v ∧
      ∃ h' s' β' sv, Sim C.hE C.w0 C.inc C.n s' h' β' w' tmps ∧ (∀ tmps', SVOk s'.nb β' tmps' sv v) ∧ G C h' (afterOp (withS c s') sv)) : G C h c := by
  intro β w tmps hS
  obtain ⟨todo, s⟩ := c
  have htg : tg < C.n := Nat.le_of_ble_eq_true htgn
  unfold callView at hc
  simp only at hc hS hkn
  split at hc
  · rename_i ops i rest k
    split at hc
    · rename_i o ho
      split at hc
      · rename_i x args types hop
        split at hc
        · split at hc
          · simp at hc
          · simp at hc
        · rename_i j want' hg
          split at hc
          · rename_i tg' hj
            split at hc
            · rename_i f' a b vs hx hv'
              simp only [Option.some.injEq, CallView.mk.injEq, Prod.mk.injEq] at hc
              obtain ⟨rfl, rfl, hdst, rfl, rfl⟩ := hc
              have hwi := wanted_of (tmps := tmps) hg hj (by rw [hS.size]; exact htg)
              have htrue := knownG_ok hS hkn
              have hwt := hwi.2 htrue
              obtain ⟨l, hl, hrun⟩ := run_callS hS (chain_ok hS 4 tg' want' htrue) hop hx hv' he
              refine Reach.call ho hwt hrun ((hk β w tmps l hS hl).mono ?_)
              rintro e w' ⟨v, rfl, h', s', β', sv, hS', hsv, hG⟩
              refine ⟨v, rfl, ?_⟩
              rw [put_tmps, hdst]
              cases d with
              | none =>
                have := hG β' w' tmps
                simp only [afterOp, withS, ho, Option.bind_some, hdst] at this
                exact this hS'
              | some d =>
                have := hG β' w' (tmps.setIfInBounds d v)
                simp only [afterOp, withS, ho, Option.bind_some, hdst] at this
                exact this (hS'.put (Nat.le_of_ble_eq_true hd) (hsv _))
            · simp at hc
          · simp at hc
      · simp at hc
    · simp at hc
  · simp at hc
theorem G.callMG {C : Ctx} {h : GH} {c : Cfg} {f : FuncId} {svs : List SV1} {d : Option Nat} {tg : Nat} {want : Bool} (ks kos ro : List Nat) (hc : callView c = some ⟨f, svs, d, some (tg, want)⟩) (htgn : Nat.blt tg C.n = true) (hkn : knownG c.s tg want = true) (he : enters C.P f = true) (hd : dstOk C.n d = true) {bs : List BoxB} {os : List Own}
    (hb : pickB c.s.boxes ks = some bs) (ho : pickO c.s.owns kos = some os) (hh : handOk c.s ks kos ro = true) (Q : GH → Value → List BoxB → List Own → Prop)
    (hcall : ∀ β w tmps l, Sim C.hE C.w0 C.inc C.n c.s h β w tmps → SV1sOk c.s.nb β svs l → Sub (roH h β w ro) w → MemOk (roH h β w ro) w (memOf β ks bs os) →
      Calls C.P f l.toArray w fun e w' => ∃ v bs' os' hc', e = .returned v ∧ bs'.length = ks.length ∧ os'.length = kos.length ∧ Mend (roH h β w ro) w (memOf β ks bs os) hc' w' (memOf β ks bs' os') ∧ Q (hideH β ro hc') v bs' os')
    (hk : ∀ h' v bs' os', Q h' v bs' os' → GLe h h' → ∃ sv, (∀ N β tmps, SVOk N β tmps sv v) ∧ G C h' (afterOp (withS c (putMem c.s ks kos bs' os')) sv)) : G C h c := by
  simp only [handOk, Bool.and_eq_true] at hh
  obtain ⟨⟨⟨h1, h2⟩, h3⟩, h4⟩ := hh
  refine G.callXG hc he hd htgn hkn fun β w tmps l hS hl => ?_
  refine (hcall β w tmps l hS hl (hS.roSub ro) (hS.memOk hb ho h1 h2 h3 h4)).mono ?_
  rintro e w' ⟨v, bs', os', hc', rfl, hlb, hlo, hm, hq⟩
  obtain ⟨sv, h5, h6⟩ := hk _ v bs' os' hq (hS.hideLe h3 hm.le)
  exact ⟨v, rfl, _, _, β, sv, hS.mended hb ho h3 h4 hlb hlo hm, fun tmps' => h5 _ _ _, h6⟩
end Go.Proofs.Ytkjahaoobdbffaa

/- Two replicas: the law's anchor. -/
namespace Go.Proofs.Ytkjahaoobdbffaa
open Go Go.RowKit
attribute [local irreducible] G GD GDop

theorem G.callRepKG {C : Ctx} {h : GH} {c : Cfg} {f : FuncId} {svs : List SV1} {d : Option Nat} {tg : Nat} {want : Bool} (k0 k1 k2 k3 ko : Nat) (hnd : nodupB [k0, k1, k2, k3] = true) (hP : C.P = Try.prog) (hc : callView c = some ⟨f, .atom (.ptr k0 0) :: svs, d, some (tg, want)⟩) (htgn : Nat.blt tg C.n = true) (hkn : knownG c.s tg want = true) (he : enters Try.prog f = true) (hd : dstOk C.n d = true) (A : Adr) (r r' : Rep) (x : RMem) (hi : RepAt k0 k1 k2 k3 ko A r x c.s) (vals : List Value) (hv : svVals svs = some vals)
    (Q : GH → Value → Prop) (hcall : RepCall A f (rptr A :: vals) h r r' Q) (hR : RepR h r x)
    (hk : ∀ h' x' v, GLe h h' → RepR h' r' x' → Q h' v → ∃ sv, (∀ N β tmps, SVOk N β tmps sv v) ∧ G C h' (afterOp (withS c (repPutK k0 k1 k2 k3 ko A c.s r' x')) sv)) : G C h c := by
  obtain ⟨P, fid, hE, w0, inc, n, R⟩ := C
  simp only at hP; subst hP
  obtain ⟨hb, ho, hh⟩ := hi.pick hnd
  refine G.callMG [k0, k1, k2, k3] [ko] [] hc htgn hkn he hd hb ho hh (fun h' v bs os => ∃ x', GLe h h' ∧ RepR h' r' x' ∧ Q h' v ∧ bs = repB A r' x' ∧ os = repO r' x') (fun β w tmps l hS hl hsub hmem => ?_) ?_
  · rw [roH_nil] at hmem hsub ⊢
    rw [hi.memOf hS] at hmem ⊢
    have hl' : l = rptr A :: vals := by
      match l, hl with
      | y :: ys, hl =>
        have h1 : y = rptr A := by
          have := hl.1
          simp only [SV1Ok, CellOk] at this
          rw [this.1]
          have h0 := hS.fresh k0 _ hi.b0
          simp only at h0
          simp [rptr, h0.1]
        rw [h1, svVals_ok hv hl.2]
    subst hl'
    refine (hcall w x hR hmem hsub).mono ?_
    rintro e w' ⟨x', h', v, rfl, hm, hR', hQ⟩
    refine ⟨v, repB A r' x', repO r' x', h', rfl, rfl, rfl, ?_, x', ?_⟩
    · rw [hi.memOf hS]; exact hm
    · rw [hideH_nil]; exact ⟨hm.le, hR', hQ, rfl, rfl⟩
  · rintro h' v bs os ⟨x', hle, hR', hQ, rfl, rfl⟩ -
    exact hk h' x' v hle hR' hQ

theorem f46_ok {h : GH} {w : World} {c q : Int} (hs : Sub h w) : Calls Try.prog 46 #[.int .i64 c, .int .i64 q] w fun e w' => e = .returned (entV ⟨0, c, q, -1, -1, -1, -1, [], []⟩ nilS nilS) ∧ Below w.heap.size w w' := by
  refine Calls.enter [.atom (.int .i64 c), .atom (.int .i64 q)] Try.func46 (c := bodyOf Try.f46) (by kernel_rfl) Try.ntmps46 ⟨rfl, rfl, trivial⟩ (by simp) hs ?_
  refine G.runE tm 100 ?_
  exact G.ret Try.func46 Try.results46 (entV ⟨0, c, q, -1, -1, -1, -1, [], []⟩ nilS nilS) (by kernel_rfl) fun w' hf _ => ⟨rfl, hf.below⟩

theorem run_eql_ptr {T E : TypeId} (hT : Try.prog.underlying T = some (.pointer E)) (o1 o2 : Operand) (a : Addr) (w : World) :
    (do eqGuard .eql T o1 o2 (.pointer (some a)) (.pointer none); binOp .eql T (.pointer (some a)) (.pointer none)).run Try.prog w = .ok (.bool false) w := by
  have h1 : (eqGuard .eql T o1 o2 (.pointer (some a)) (.pointer none)).run Try.prog w = .ok () w := by unfold eqGuard; simp
  have h2 : (Op.equalIn (9999 + 1) T (.pointer (some a)) (.pointer none)).run Try.prog w = .ok false w := by
    rw [Op.equalIn]
    simp [run_underlying hT]
  have h3 : (Op.equalIn 10000 T (.pointer (some a)) (.pointer none)).run Try.prog w = .ok false w := h2
  simp [Sem.run_bind, h1, binOp, Op.equal, Op.maxDepth, h3]

theorem SlR.msgs {h : GH} {s : Value} {l : List Msg} (hs : SlR h 8 (MsgR h) s l) (hne : l ≠ []) : ∃ b off c, s = .slice (some ⟨b, off, none⟩) l.length c ∧ ∀ i m, l[i]? = some m → ∀ w, Sub h w →
    (Instr.loadAt 3 (.pointer (some ⟨b, off + i * 8, none⟩))).run Try.prog w = .ok (.int .i64 m.kind) w ∧ (Instr.loadAt 3 (.pointer (some ⟨b, off + i * 8 + 3, none⟩))).run Try.prog w = .ok (.int .i64 m.to) w := by
  obtain ⟨ao, cap, h1, -, -, h4⟩ := hs
  rcases h4 with h4 | ⟨b, off, arr, T, fr, rfl, hb, hsz, hR⟩
  · exact absurd h4 hne
  · refine ⟨b, off, cap, h1, fun i m hm w hw => ?_⟩
    obtain ⟨p, h5, -⟩ := hR i m hm
    have h6 : ∀ j u, ((arr.toList.drop (off + i * 8)).take 8)[j]? = some u → arr[off + i * 8 + j]? = some u := fun j u hj => by
      rw [List.getElem?_take] at hj
      split at hj
      · rw [List.getElem?_drop] at hj
        simpa using hj
      · cases hj
    refine ⟨loadCell Try.underlying3 rfl hb (h6 0 _ (by rw [h5]; rfl)) hw, loadCell Try.underlying3 rfl hb (h6 3 _ (by rw [h5]; rfl)) hw⟩

theorem z45 : sizeP Try.prog 45 = some 8 := by kernel_rfl
theorem u45 : ∃ d, Try.prog.underlying 45 = some d ∧ isAggD d = true := ⟨_, Try.underlying45, rfl⟩

theorem G.elMsg {C : Ctx} {h : GH} {c : Cfg} {v : Value} {l : List Msg} {d1 : Option Nat} {g : Option (Nat × Bool)} (hP : C.P = Try.prog) (hs : SlR h 8 (MsgR h) v l) {i : Nat} {m : Msg} (hx : l[i]? = some m)
    (h1 : semAt c = some ⟨valS (Instr.loadAt 45 (.pointer (some (elemAddr v 8 i)))), d1, g⟩) (hok : gOk C.n d1 g = true)
    (hk : ∀ p, EntsR h p m.log → G C h (afterOp c (gdOf g (.agg (msgC m p))))) : G C h c :=
  G.elA hs (by rw [hP]; exact z45) (by rw [hP]; exact u45) hx h1 hok fun arr hR => by
    obtain ⟨p, h5, h6⟩ := hR
    refine ⟨.agg (msgC m p), ?_, hk p h6⟩
    have : arr = #[.int .i64 m.kind, .int .i64 m.view, .int .i64 m.frm, .int .i64 m.to, .int .i64 m.op, .int .i64 m.commit, .int .i64 m.normal, p] := by apply Array.ext'; simpa using h5
    subst this
    exact msgC_ok h6

def ent1 : Ent := ⟨0, 1, 1, -1, -1, -1, -1, [], []⟩
def msg1 (to : Int) : Msg := ⟨1, 0, 0, to, 1, 0, 0, [ent1]⟩
def msg2 : Msg := ⟨2, 0, 1, 0, 1, 0, 0, []⟩
def repA0 : Rep := Rep.new 2 0 5 ⟨0, 0, 0, 0, []⟩
def repB0 : Rep := Rep.new 2 1 5 ⟨0, 0, 0, 0, []⟩
def repA1 : Rep := { repA0 with log := [ent1] }
def repB1 : Rep := { repB0 with log := [ent1] }
def repA2 : Rep := { repA1 with acks := [(1, 1)], commit := 1 }

theorem step1 : repA0.submit ent1 = (repA1, [msg1 1, msg1 2], 0) := by kernel_rfl
theorem step2 : repB0.deliver (msg1 1) = (repB1, [msg2], 0) := by kernel_rfl
theorem step3 : repA1.deliver msg2 = (repA2, [], 0) := by kernel_rfl

theorem repA0_ok : RepOk repA0 := ⟨⟨0, rfl, Nat.zero_le _⟩, by decide, by decide, ⟨by decide, by simp [repA0, Rep.new]⟩, by simp [repA0, Rep.new]⟩
theorem repB0_ok : RepOk repB0 := ⟨⟨0, rfl, Nat.zero_le _⟩, by decide, by decide, ⟨by decide, by simp [repB0, Rep.new]⟩, by simp [repB0, Rep.new]⟩
theorem ent1_small : entSmall ent1 := ⟨by decide, by decide⟩
theorem log1_ok : LogOk [ent1] := ⟨by decide, fun e he => by simp only [List.mem_singleton] at he; subst he; exact ent1_small⟩
theorem repA1_ok : RepOk repA1 := ⟨⟨0, rfl, Nat.zero_le _⟩, by decide, by decide, log1_ok, by simp [repA1, repA0, Rep.new]⟩

def sta0 : Sta := ⟨0, 0, 0, 0, []⟩

/-- A new replica out of right parts. -/
theorem f23_right {h : GH} {w : World} {n0 : Nat} {id t : Int} {s : Sta} {p : Value} (hp : EntsR h p s.log) (hs : Sub h w) (hok : (cfgRight (Int.ofNat (n0 + 1)) id t && staRight s) = true) :
    Calls Try.prog 23 #[.agg #[.int .i64 (Int.ofNat (n0 + 1)), .int .i64 id, .int .i64 t], staV s p] w fun e w' =>
      ∃ v h' m, e = .returned v ∧ Laid h w h' w' m ∧ ∃ A x, v = .tuple #[rptr A, .int .i64 0] ∧ m = repM A (Rep.new n0 id t s) x ∧ RepR h' (Rep.new n0 id t s) x := by
  refine (f23_ok hp hs).mono ?_
  rintro e w' (⟨h1, -⟩ | ⟨-, n1, A, x, h', hn, rfl, hl, hR⟩)
  · rw [hok] at h1; cases h1
  · have : n1 = n0 := by
      have := Int.ofNat.inj hn
      omega
    subst this
    exact ⟨_, h', _, rfl, hl, A, x, rfl, rfl, hR⟩

set_option maxHeartbeats 8000000 in
theorem f21_ok {h : GH} {w : World} (hs : Sub h w) : Calls Try.prog 21 #[] w fun e w' => e = .returned (.bool true) ∧ Below w.heap.size w w' := by
  refine Calls.enter [] Try.func21 (c := bodyOf Try.f21) (by kernel_rfl) Try.ntmps21 trivial (by simp) hs ?_
  refine G.runX tabR_ok tm 0 100 (by kernel_rfl) ?_
  refine G.callNew 0 (f := 23) (svs := [.agg [.int .i64 3, .int .i64 0, .int .i64 5], .agg (staC sta0 nilS)]) (d := some 14) (by kernel_rfl) [.agg #[.int .i64 3, .int .i64 0, .int .i64 5], staV sta0 nilS] (by kernel_rfl) (by kernel_rfl) (by kernel_rfl) _ (fun w hw => f23_right (n0 := 2) ents_nil hw (by decide)) ?_
  rintro h1 _ _ ⟨A, x, rfl, rfl, hR⟩ hle1
  refine ⟨rfl, .tup [.atom (.raw (rptr A)), .atom (.int .i64 0)], fun N β _ => ⟨_, rfl, ⟨rfl, rfl⟩, rfl, trivial⟩, ?_⟩
  refine G.runX tabR_ok tm 0 100 (by kernel_rfl) ?_
  refine G.callNew 1 (f := 23) (svs := [.agg [.int .i64 3, .int .i64 1, .int .i64 5], .agg (staC sta0 nilS)]) (d := some 20) (by kernel_rfl) [.agg #[.int .i64 3, .int .i64 1, .int .i64 5], staV sta0 nilS] (by kernel_rfl) (by kernel_rfl) (by kernel_rfl) _ (fun w hw => f23_right (n0 := 2) ents_nil hw (by decide)) ?_
  rintro h2 _ _ ⟨B, y, rfl, rfl, hB⟩ hle2
  refine ⟨rfl, .tup [.atom (.raw (rptr B)), .atom (.int .i64 0)], fun N β _ => ⟨_, rfl, ⟨rfl, rfl⟩, rfl, trivial⟩, ?_⟩
  have hA := hR.mono hle2
  refine G.runX tabR_ok tm 0 100 (by kernel_rfl) ?_
  refine G.sem (m := valS (do eqGuard .eql 52 (.tmp 30) (.const (.pointer none)) (rptr A) (.pointer none); binOp .eql 52 (rptr A) (.pointer none))) (d := some 31) (g := some (29, false)) (by kernel_rfl) (by kernel_rfl) (.bool false) (.atom (.bool false)) (fun _ _ => rfl) (says_of fun w _ => run_valS (run_eql_ptr Try.underlying52 _ _ _ w)) ?_
  refine G.runX tabR_ok tm 0 100 (by kernel_rfl) ?_
  refine G.sem (m := valS (do eqGuard .eql 52 (.tmp 34) (.const (.pointer none)) (rptr B) (.pointer none); binOp .eql 52 (rptr B) (.pointer none))) (d := some 35) (g := some (33, false)) (by kernel_rfl) (by kernel_rfl) (.bool false) (.atom (.bool false)) (fun _ _ => rfl) (says_of fun w _ => run_valS (run_eql_ptr Try.underlying52 _ _ _ w)) ?_
  refine G.toPtr 1 0 (b := A.rb) (off := 0) (x := .lit 135 (repC A (repA0) x)) (by kernel_rfl) (by kernel_rfl) ?_
  refine G.toPtr 3 4 (b := B.rb) (off := 0) (x := .lit 135 (repC B (repB0) y)) (by kernel_rfl) (by kernel_rfl) ?_
  refine G.runX tabR_ok tm 0 100 (by kernel_rfl) ?_
  refine G.cond false (by kernel_rfl) (fun hc => by cases hc) (fun _ => ?_)
  refine G.runX tabR_ok tm 0 100 (by kernel_rfl) ?_
  refine G.callV (f := 46) (svs := [.atom (.int .i64 1), .atom (.int .i64 1)]) (d := some 49) (by kernel_rfl) [.int .i64 1, .int .i64 1] (entV ent1 nilS nilS) (by kernel_rfl) (by kernel_rfl) (by kernel_rfl) (fun w hw => f46_ok hw) ?_
  have hs1 := f47_ok (A := A) (h := h2) (r := repA0) (e := ent1) (p := nilS) (d := nilS) SlR.nil SlR.nil ent1_small repA0_ok (by decide)
  rw [step1] at hs1
  refine G.callRepK 0 1 2 3 0 (by kernel_rfl) (f := 47) (svs := [.agg (entC ent1 nilS nilS)]) (d := some 50) rfl (by kernel_rfl) (by kernel_rfl) (by kernel_rfl) A repA0 repA1 x ⟨by kernel_rfl, by kernel_rfl, by kernel_rfl, by kernel_rfl, by kernel_rfl⟩ [entV ent1 nilS nilS] (by kernel_rfl) _ hs1 hA ?_
  rintro h3 x1 _ hle3 hA1 ⟨s1, rfl, hs1⟩
  obtain ⟨b1, o1, c1, rfl, hld1⟩ := hs1.msgs (by simp)
  refine ⟨.tup [.atom (.sl (.slice (some ⟨b1, o1, none⟩) 2 c1) 2), .atom (.int .i64 0)], fun N β _ => ⟨_, rfl, ⟨rfl, _, _, rfl⟩, rfl, trivial⟩, ?_⟩
  refine G.runX tabR_ok tm 0 100 (by kernel_rfl) ?_
  refine G.idx (d1 := some 62) (g := some (60, false)) (T := 50) (E := 45) hs1 Try.underlying50 z45 (i := 0) (by decide) (by kernel_rfl) (by kernel_rfl) ?_
  refine G.runX tabR_ok tm 0 100 (by kernel_rfl) ?_
  refine G.sem (m := valS (Instr.loadAt 3 (.pointer (some ⟨b1, o1 + 0 * 8, none⟩)))) (d := some 64) (g := some (60, false)) (by kernel_rfl) (by kernel_rfl) (.int .i64 1) (.atom (.int .i64 1)) (fun _ _ => rfl) (says_of fun w hw => run_valS ((hld1 0 (msg1 1) rfl w hw).1)) ?_
  refine G.runX tabR_ok tm 0 100 (by kernel_rfl) ?_
  refine G.idx (d1 := some 69) (g := some (67, false)) (T := 50) (E := 45) hs1 Try.underlying50 z45 (i := 0) (by decide) (by kernel_rfl) (by kernel_rfl) ?_
  refine G.runX tabR_ok tm 0 100 (by kernel_rfl) ?_
  refine G.sem (m := valS (Instr.loadAt 3 (.pointer (some ⟨b1, o1 + 0 * 8 + 3, none⟩)))) (d := some 71) (g := some (67, false)) (by kernel_rfl) (by kernel_rfl) (.int .i64 1) (.atom (.int .i64 1)) (fun _ _ => rfl) (says_of fun w hw => run_valS ((hld1 0 (msg1 1) rfl w hw).2)) ?_
  refine G.runX tabR_ok tm 0 100 (by kernel_rfl) ?_
  refine G.cond false (by kernel_rfl) (fun hc => by cases hc) (fun _ => ?_)
  refine G.runX tabR_ok tm 0 100 (by kernel_rfl) ?_
  refine G.idx (d1 := some 77) (g := none) (T := 50) (E := 45) hs1 Try.underlying50 z45 (i := 0) (by decide) (by kernel_rfl) (by kernel_rfl) ?_
  refine G.runX tabR_ok tm 0 100 (by kernel_rfl) ?_
  refine G.elMsg (d1 := some 78) (g := none) rfl hs1 (i := 0) (m := msg1 1) rfl (by kernel_rfl) (by kernel_rfl) fun p1 hp1 => ?_
  refine G.runX tabR_ok tm 0 100 (by kernel_rfl) ?_
  have hs2 := f27_ok (A := B) (h := h3) (r := repB0) (m := msg1 1) (p := p1) hp1 log1_ok repB0_ok (by decide) (by decide) (by decide)
  rw [step2] at hs2
  refine G.callRepK 4 5 6 7 1 (by kernel_rfl) (f := 27) (svs := [.agg (msgC (msg1 1) p1)]) (d := some 79) rfl (by kernel_rfl) (by kernel_rfl) (by kernel_rfl) B repB0 repB1 y ⟨by kernel_rfl, by kernel_rfl, by kernel_rfl, by kernel_rfl, by kernel_rfl⟩ [msgV (msg1 1) p1] (by kernel_rfl) _ hs2 (hB.mono hle3) ?_
  rintro h4 y1 _ hle4 hB1 ⟨s2, rfl, hs2⟩
  obtain ⟨b2, o2, c2, rfl, hld2⟩ := hs2.msgs (by simp)
  refine ⟨.tup [.atom (.sl (.slice (some ⟨b2, o2, none⟩) 1 c2) 1), .atom (.int .i64 0)], fun N β _ => ⟨_, rfl, ⟨rfl, _, _, rfl⟩, rfl, trivial⟩, ?_⟩
  refine G.runX tabR_ok tm 0 100 (by kernel_rfl) ?_
  refine G.idx (d1 := some 91) (g := some (89, false)) (T := 50) (E := 45) hs2 Try.underlying50 z45 (i := 0) (by decide) (by kernel_rfl) (by kernel_rfl) ?_
  refine G.runX tabR_ok tm 0 100 (by kernel_rfl) ?_
  refine G.sem (m := valS (Instr.loadAt 3 (.pointer (some ⟨b2, o2 + 0 * 8, none⟩)))) (d := some 93) (g := some (89, false)) (by kernel_rfl) (by kernel_rfl) (.int .i64 2) (.atom (.int .i64 2)) (fun _ _ => rfl) (says_of fun w hw => run_valS ((hld2 0 msg2 rfl w hw).1)) ?_
  refine G.runX tabR_ok tm 0 100 (by kernel_rfl) ?_
  refine G.cond false (by kernel_rfl) (fun hc => by cases hc) (fun _ => ?_)
  refine G.runX tabR_ok tm 0 100 (by kernel_rfl) ?_
  refine G.idx (d1 := some 99) (g := none) (T := 50) (E := 45) hs2 Try.underlying50 z45 (i := 0) (by decide) (by kernel_rfl) (by kernel_rfl) ?_
  refine G.runX tabR_ok tm 0 100 (by kernel_rfl) ?_
  refine G.elMsg (d1 := some 100) (g := none) rfl hs2 (i := 0) (m := msg2) rfl (by kernel_rfl) (by kernel_rfl) fun p2 hp2 => ?_
  refine G.runX tabR_ok tm 0 100 (by kernel_rfl) ?_
  have hs3 := f27_ok (A := A) (h := h4) (r := repA1) (m := msg2) (p := p2) hp2 logOk_nil repA1_ok (by decide) (by decide) (by decide)
  rw [step3] at hs3
  refine G.callRepK 0 1 2 3 0 (by kernel_rfl) (f := 27) (svs := [.agg (msgC msg2 p2)]) (d := some 101) rfl (by kernel_rfl) (by kernel_rfl) (by kernel_rfl) A repA1 repA2 x1 ⟨by kernel_rfl, by kernel_rfl, by kernel_rfl, by kernel_rfl, by kernel_rfl⟩ [msgV msg2 p2] (by kernel_rfl) _ hs3 (hA1.mono hle4) ?_
  rintro h5 x2 _ hle5 hA2 ⟨s3, rfl, hs3⟩
  obtain ⟨ao3, c3, rfl⟩ := hs3.isSlice
  refine ⟨.tup [.atom (.sl (.slice ao3 0 c3) 0), .atom (.int .i64 0)], fun N β _ => ⟨_, rfl, ⟨rfl, _, _, rfl⟩, rfl, trivial⟩, ?_⟩
  refine G.runX tabR_ok tm 0 100 (by kernel_rfl) ?_
  refine G.callRepKG 0 1 2 3 0 (by kernel_rfl) (f := 25) (svs := []) (d := some 108) (tg := 106) (want := true) rfl (by kernel_rfl) (by kernel_rfl) (by kernel_rfl) (by kernel_rfl) (by kernel_rfl) A repA2 repA2 x2 ⟨by kernel_rfl, by kernel_rfl, by kernel_rfl, by kernel_rfl, by kernel_rfl⟩ [] (by kernel_rfl) _ (f25_ok log1_ok) hA2 ?_
  rintro h6 x3 _ hle6 hA3 ⟨p6, rfl, hp6⟩
  refine ⟨.one (.agg (staC repA2.sta p6)), fun N β _ => staC_ok hp6 N β, ?_⟩
  refine G.runX tabR_ok tm 0 100 (by kernel_rfl) ?_
  refine G.callRepKG 4 5 6 7 1 (by kernel_rfl) (f := 25) (svs := []) (d := some 114) (tg := 112) (want := true) rfl (by kernel_rfl) (by kernel_rfl) (by kernel_rfl) (by kernel_rfl) (by kernel_rfl) B repB1 repB1 y1 ⟨by kernel_rfl, by kernel_rfl, by kernel_rfl, by kernel_rfl, by kernel_rfl⟩ [] (by kernel_rfl) _ (f25_ok log1_ok) ((hB1.mono hle5).mono hle6) ?_
  rintro h7 y3 _ hle7 hB3 ⟨p7, rfl, hp7⟩
  refine ⟨.one (.agg (staC repB1.sta p7)), fun N β _ => staC_ok hp7 N β, ?_⟩
  refine G.runX tabR_ok tm 0 100 (by kernel_rfl) ?_
  exact G.ret Try.func21 Try.results21 (.bool true) (by kernel_rfl) fun w' hf _ => ⟨rfl, hf.below⟩
end Go.Proofs.Ytkjahaoobdbffaa

/- Logs that are small. -/
namespace Go.Proofs.Ytkjahaoobdbffaa
open Go Go.RowKit
attribute [local irreducible] G GD GDop

def smallR (r : Rul) : Bool := decide (r.pat.size ≤ 300)
def smallE (e : Ent) : Bool := decide (e.put.length ≤ 20) && decide (e.drop.length ≤ 20) && e.put.all smallR
def smallLog (l : List Ent) : Bool := l.all smallE && decide (l.length ≤ 70)

theorem smallLog_ok {h : GH} {v : Value} {l : List Ent} (hl : EntsR h v l) {w : World} (hs : Sub h w) :
    Calls Try.prog 14 #[v] w fun e w' => e = .returned (.bool (smallLog l)) ∧ Below w.heap.size w w' := by
  have hlen := SlR.len hl
  refine Calls.enter [.atom (.sl v l.length)] Try.func14 (c := bodyOf Try.f14) (by kernel_rfl) Try.ntmps14 ⟨hl.sv _ _, trivial⟩ (by simp) hs ?_
  refine G.runE tm 100 ?_
  refine G.loop (α := Nat) (fun i => ⟨[(0, .one (.atom (.sl v l.length))), (7, .one (.atom (.sl v l.length))), (8, .one (.atom (.int .i64 l.length))), (9, .one (.atom (.int .i64 i)))], [], 0, []⟩)
    (fun i h' => h' = h ∧ i ≤ l.length ∧ (l.take i).all smallE = true) (fun i => l.length - i) 0 [0, 7, 8, 9] [] 0 [] (by kernel_rfl) (by kernel_rfl) (by kernel_rfl) ⟨rfl, Nat.zero_le _, by simp⟩ ?_
  rintro i h' ⟨rfl, hi, hall⟩ IH
  refine G.runE tm 100 ?_
  refine G.cond (decide ((i : Int) < (l.length : Int))) (by kernel_rfl) (fun hb => ?_) (fun hb => ?_)
  · have hlt : i < l.length := by simpa using hb
    obtain ⟨e, he⟩ : ∃ e, l[i]? = some e := ⟨l[i], by simp [hlt]⟩
    refine G.runE tm 100 ?_
    refine G.idx (d1 := some 11) (g := none) (T := 22) (E := 34) hl Try.underlying22 z34 hlt (by kernel_rfl) (by kernel_rfl) ?_
    refine G.elEnt (d1 := some 12) (g := none) (E := 34) hl z34 u34 he (by kernel_rfl) (by kernel_rfl) fun p d hp hd => ?_
    refine G.runE tm 100 ?_
    refine G.cond (decide ((e.put.length : Int) > 20) || decide ((e.drop.length : Int) > 20)) (by kernel_rfl) (fun hb => ?_) (fun hb => ?_)
    · refine G.runE tm 100 ?_
      refine G.ret Try.func14 Try.results14 (.bool false) (by kernel_rfl) fun w' hf _ => ⟨?_, hf.below⟩
      have : smallE e = false := by
        simp only [Bool.or_eq_true, decide_eq_true_eq] at hb
        unfold smallE
        rcases hb with hb | hb
        · have : ¬ e.put.length ≤ 20 := by omega
          simp [this]
        · have : ¬ e.drop.length ≤ 20 := by omega
          simp [this]
      simp [smallLog, all_false he this]
    · refine G.runE tm 100 ?_
      have hplen := hp.len
      refine G.loop (α := Nat) (fun j => ⟨[(0, .one (.atom (.sl v l.length))), (7, .one (.atom (.sl v l.length))), (8, .one (.atom (.int .i64 l.length))), (9, .one (.atom (.int .i64 i))),
          (27, .one (.atom (.sl p e.put.length))), (28, .one (.atom (.int .i64 e.put.length))), (29, .one (.atom (.int .i64 j)))], [], 0, []⟩)
        (fun j g => g = h' ∧ j ≤ e.put.length ∧ (e.put.take j).all smallR = true) (fun j => e.put.length - j) 0 [0, 7, 8, 9, 27, 28, 29] [] 0 [] (by kernel_rfl) (by kernel_rfl) (by kernel_rfl) ⟨rfl, Nat.zero_le _, by simp⟩ ?_
      rintro j g ⟨rfl, hj, hjall⟩ IH2
      refine G.runE tm 100 ?_
      refine G.cond (decide ((j : Int) < (e.put.length : Int))) (by kernel_rfl) (fun hb => ?_) (fun hb => ?_)
      · have hjlt : j < e.put.length := by simpa using hb
        obtain ⟨r, hr⟩ : ∃ r, e.put[j]? = some r := ⟨e.put[j], by simp [hjlt]⟩
        refine G.runE tm 100 ?_
        refine G.idx (d1 := some 31) (g := none) (T := 29) (E := 114) hp Try.underlying29 z114 hjlt (by kernel_rfl) (by kernel_rfl) ?_
        refine G.elRul (d1 := some 32) (g := none) (E := 114) hp z114 u114 hr (by kernel_rfl) (by kernel_rfl) ?_
        refine G.runE tm 100 ?_
        refine G.cond (decide ((r.pat.size : Int) > 300)) (by kernel_rfl) (fun hb => ?_) (fun hb => ?_)
        · refine G.runE tm 100 ?_
          refine G.ret Try.func14 Try.results14 (.bool false) (by kernel_rfl) fun w' hf _ => ⟨?_, hf.below⟩
          have h1 : smallR r = false := by simp [smallR] at hb ⊢; omega
          have h2 : smallE e = false := by simp [smallE, all_false hr h1]
          simp [smallLog, all_false he h2]
        · have h1 : smallR r = true := by simp [smallR] at hb ⊢; omega
          refine G.runE tm 100 ?_
          refine G.reint (k := .i64) 29 (by kernel_rfl) (wrap_succ hjlt hplen) ?_
          refine G.back (by kernel_rfl) [0, 7, 8, 9, 27, 28, 29] [] 0 [] (by kernel_rfl) (by kernel_rfl) (IH2 (j + 1) _ ⟨rfl, hjlt, all_take_succ hr hjall h1⟩ (by omega))
      · have hje : j = e.put.length := by simp at hb; omega
        subst hje
        have hE : smallE e = true := by
          rename_i hb0
          simp at hb0
          have := hjall
          rw [List.take_length] at this
          simp [smallE, this]; omega
        refine G.runE tm 100 ?_
        refine G.reint (k := .i64) 9 (by kernel_rfl) (wrap_succ hlt hlen) ?_
        refine G.back (by kernel_rfl) [0, 7, 8, 9] [] 0 [] (by kernel_rfl) (by kernel_rfl) (IH (i + 1) _ ⟨rfl, hlt, all_take_succ he hall hE⟩ (by omega))
  · have hie : i = l.length := by simp at hb; omega
    subst hie
    rw [List.take_length] at hall
    refine G.runE tm 100 ?_
    refine G.ret Try.func14 Try.results14 (.bool (decide ((l.length : Int) ≤ 70))) (by kernel_rfl) fun w' hf _ => ⟨?_, hf.below⟩
    simp only [smallLog, hall, Bool.true_and]
    congr 2
    rw [decide_eq_decide]; omega
end Go.Proofs.Ytkjahaoobdbffaa

/- ReplicaOld: what is older than the view changes nothing. -/
namespace Go.Proofs.Ytkjahaoobdbffaa
open Go Go.RowKit
attribute [local irreducible] G GD GDop

theorem f22_ok {h : GH} {w : World} {s : Sta} {p : Value} (hp : EntsR h p s.log) (hs : Sub h w) : Calls Try.prog 22 #[staV s p] w fun e w' => e = .returned (.bool (smallLog s.log)) ∧ Below w.heap.size w w' := by
  refine Calls.enter [.agg (staC s p)] Try.func22 (c := bodyOf Try.f22) (by kernel_rfl) Try.ntmps22 ⟨staC_ok hp _ _, trivial⟩ (by simp) hs ?_
  refine G.runE tm 100 ?_
  refine G.callV (f := 14) (svs := [.atom (.sl p s.log.length)]) (d := some 5) (by kernel_rfl) [p] (.bool (smallLog s.log)) (by kernel_rfl) (by kernel_rfl) (by kernel_rfl) (fun w hw => smallLog_ok hp hw) ?_
  refine G.runE tm 100 ?_
  exact G.ret Try.func22 Try.results22 (.bool (smallLog s.log)) (by kernel_rfl) fun w' hf _ => ⟨rfl, hf.below⟩

theorem smallLog_logOk {l : List Ent} (h : smallLog l = true) : LogOk l := by
  simp only [smallLog, Bool.and_eq_true, decide_eq_true_eq, List.all_eq_true] at h
  refine ⟨by omega, fun e he => ?_⟩
  have := h.1 e he
  simp only [smallE, Bool.and_eq_true, decide_eq_true_eq] at this
  exact ⟨by omega, by omega⟩

theorem rep_new_ok {n0 : Nat} {id t : Int} {s : Sta} (hs : staRight s = true) (hl : smallLog s.log = true) (hn : n0 ≤ 1000) : RepOk (Rep.new n0 id t s) := by
  simp only [staRight, Bool.and_eq_true, decide_eq_true_eq] at hs
  refine ⟨⟨s.commit.toNat, ?_, ?_⟩, hn, by simp [Rep.new], smallLog_logOk hl, by simp [Rep.new]⟩
  · show s.commit = _
    omega
  · show s.commit.toNat ≤ s.log.length
    omega

theorem f24_ok {h : GH} {w : World} {s : Sta} {p : Value} (hp : EntsR h p s.log) (hb : ∀ e ∈ s.log, Bnd e) (hn : s.log.length ≤ 100000) (hs : Sub h w) :
    Calls Try.prog 24 #[staV s p] w fun e w' => ∃ v h', e = .returned v ∧ Grow h w h' w' ∧ ∃ p', v = staV s p' ∧ EntsR h' p' s.log := by
  refine Calls.enter [.agg (staC s p)] Try.func24 (c := bodyOf Try.f24) (by kernel_rfl) Try.ntmps24 ⟨staC_ok hp _ _, trivial⟩ (by simp) hs ?_
  refine G.runE tm 100 ?_
  refine G.draw [0] tm (by kernel_rfl) (by kernel_rfl) ?_
  refine GD.callJ tabR_ok (by kernel_rfl) 10 8 (f := 17) (svs := [.atom (.sl p s.log.length)]) (dst := some 13) [p] (by kernel_rfl) (by kernel_rfl) (by kernel_rfl) (by kernel_rfl) (by kernel_rfl) (fun h' v => EntsR h' v s.log) (fun w hw => f17_ok hp hb hn hw) fun h1 p1 hp1 hle1 => ⟨.one (.atom (.sl p1 s.log.length)), fun N β _ => SlR.sv hp1 N β, by kernel_rfl, by kernel_rfl, ?_⟩
  refine GD.fin (by kernel_rfl) ?_
  refine G.runE tm 100 ?_
  exact G.retG Try.func24 Try.results24 (staV s p1) (by kernel_rfl) rfl fun w' hg => ⟨staV s p1, h1, rfl, hg, p1, rfl, hp1⟩

theorem run_eql_nilptr {T E : TypeId} (hT : Try.prog.underlying T = some (.pointer E)) (o1 o2 : Operand) (w : World) :
    (do eqGuard .eql T o1 o2 (.pointer none) (.pointer none); binOp .eql T (.pointer none) (.pointer none)).run Try.prog w = .ok (.bool true) w := by
  have h1 : (eqGuard .eql T o1 o2 (.pointer none) (.pointer none)).run Try.prog w = .ok () w := by unfold eqGuard; simp
  have h2 : (Op.equalIn (9999 + 1) T (.pointer none) (.pointer none)).run Try.prog w = .ok true w := by
    rw [Op.equalIn]
    simp [run_underlying hT]
  have h3 : (Op.equalIn 10000 T (.pointer none) (.pointer none)).run Try.prog w = .ok true w := h2
  simp [Sem.run_bind, h1, binOp, Op.equal, Op.maxDepth, h3]

theorem small_bnd {l : List Ent} (h : smallLog l = true) : ∀ e ∈ l, Bnd e := by
  intro e he
  simp only [smallLog, Bool.and_eq_true, decide_eq_true_eq, List.all_eq_true] at h
  have := h.1 e he
  simp only [smallE, Bool.and_eq_true, decide_eq_true_eq] at this
  unfold Bnd
  omega

set_option maxHeartbeats 8000000 in
theorem f4_ok {h : GH} {w : World} {n id t : Int} {s : Sta} {p q : Value} {l : List Msg} (hp : EntsR h p s.log) (hq : SlR h 8 (MsgR h) q l) (hs : Sub h w) :
    Calls Try.prog 4 #[.agg #[.int .i64 n, .int .i64 id, .int .i64 t], staV s p, q] w fun e w' => e = .returned (.bool true) ∧ Below w.heap.size w w' := by
  refine Calls.enter [.agg [.int .i64 n, .int .i64 id, .int .i64 t], .agg (staC s p), .atom (.sl q l.length)] Try.func4 (c := bodyOf Try.f4) (by kernel_rfl) Try.ntmps4 ⟨⟨_, rfl, rfl, rfl, rfl, trivial⟩, staC_ok hp _ _, SlR.sv hq _ _, trivial⟩ (by simp) hs ?_
  refine G.runX tabR_ok tm 0 100 (by kernel_rfl) ?_
  refine G.callV (f := 21) (svs := []) (d := some 16) (by kernel_rfl) [] (.bool true) (by kernel_rfl) (by kernel_rfl) (by kernel_rfl) (fun w hw => f21_ok hw) ?_
  refine G.runX tabR_ok tm 0 100 (by kernel_rfl) ?_
  refine G.cond false (by kernel_rfl) (fun hc => by cases hc) (fun _ => ?_)
  refine G.runX tabR_ok tm 0 100 (by kernel_rfl) ?_
  refine G.callGV (f := 22) (svs := [.agg (staC s p)]) (d := 23) (tg := 21) (want := false) (by kernel_rfl) [staV s p] (.bool (smallLog s.log)) (by kernel_rfl) (by kernel_rfl) (by kernel_rfl) (says_of fun w hw => f22_ok hp hw) ?_
  refine G.runX tabR_ok tm 0 100 (by kernel_rfl) ?_
  refine G.cond (decide ((l.length : Int) > 20) || !(smallLog s.log)) (by kernel_rfl) (fun hc => ?_) (fun hc => ?_)
  · refine G.runE tm 100 ?_
    exact G.ret Try.func4 Try.results4 (.bool true) (by kernel_rfl) fun w' hf _ => ⟨rfl, hf.below⟩
  have hsm : smallLog s.log = true := by
    cases h1 : smallLog s.log with
    | true => rfl
    | false => rw [h1] at hc; simp at hc
  have hlen : l.length ≤ 20 := by
    rw [hsm] at hc
    simp at hc
    omega
  refine G.runX tabR_ok tm 0 100 (by kernel_rfl) ?_
  cases hok : cfgRight n id t && staRight s with
  | false =>
    refine G.callV (f := 23) (svs := [.agg [.int .i64 n, .int .i64 id, .int .i64 t], .agg (staC s p)]) (d := some 29) (by kernel_rfl) [.agg #[.int .i64 n, .int .i64 id, .int .i64 t], staV s p] (.tuple #[.pointer none, .int .i64 10]) (by kernel_rfl) (by kernel_rfl) (by kernel_rfl) (fun w hw => (f23_ok hp hw).mono (by
      rintro e w' (⟨-, h1, h2⟩ | ⟨h1, -⟩)
      · exact ⟨h1, h2⟩
      · rw [hok] at h1; cases h1)) ?_
    refine G.runX tabR_ok tm 0 100 (by kernel_rfl) ?_
    refine G.cond true (by kernel_rfl) (fun _ => ?_) (fun hc => by cases hc)
    refine G.runX tabR_ok tm 0 100 (by kernel_rfl) ?_
    refine G.sem (m := valS (do eqGuard .eql 52 (.tmp 34) (.const (.pointer none)) (.pointer none) (.pointer none); binOp .eql 52 (.pointer none) (.pointer none))) (d := some 35) (g := none) (by kernel_rfl) (by kernel_rfl) (.bool true) (.atom (.bool true)) (fun _ _ => rfl) (says_of fun w _ => run_valS (run_eql_nilptr Try.underlying52 _ _ w)) ?_
    refine G.runX tabR_ok tm 0 100 (by kernel_rfl) ?_
    exact G.ret Try.func4 Try.results4 (.bool true) (by kernel_rfl) fun w' hf _ => ⟨rfl, hf.below⟩
  | true =>
    obtain ⟨n0, rfl, hn0⟩ : ∃ n0 : Nat, n = Int.ofNat (n0 + 1) ∧ n0 ≤ 6 := by
      have h1 : cfgRight n id t = true := by simp only [Bool.and_eq_true] at hok; exact hok.1
      simp only [cfgRight, Bool.and_eq_true, Bool.or_eq_true, beq_iff_eq] at h1
      rcases h1.1.1.1.1 with (h2 | h2) | h2
      · exact ⟨2, h2, by decide⟩
      · exact ⟨4, h2, by decide⟩
      · exact ⟨6, h2, by decide⟩
    have hsr : staRight s = true := by simp only [Bool.and_eq_true] at hok; exact hok.2
    refine G.callNew 0 (f := 23) (svs := [.agg [.int .i64 (Int.ofNat (n0 + 1)), .int .i64 id, .int .i64 t], .agg (staC s p)]) (d := some 29) (by kernel_rfl) [.agg #[.int .i64 (Int.ofNat (n0 + 1)), .int .i64 id, .int .i64 t], staV s p] (by kernel_rfl) (by kernel_rfl) (by kernel_rfl) _ (fun w hw => f23_right hp hw hok) ?_
    rintro h1 _ _ ⟨A, x, rfl, rfl, hR⟩ hle1
    refine ⟨rfl, .tup [.atom (.raw (rptr A)), .atom (.int .i64 0)], fun N β _ => ⟨_, rfl, ⟨rfl, rfl⟩, rfl, trivial⟩, ?_⟩
    have hro := rep_new_ok (n0 := n0) (id := id) (t := t) hsr hsm (by omega)
    obtain ⟨r, hr⟩ : ∃ r, r = Rep.new n0 id t s := ⟨_, rfl⟩
    have hview : r.view = s.view := by rw [hr]; rfl
    have hrl : r.sta = s := by rw [hr]; rfl
    rw [← hr] at hR hro ⊢
    refine G.runX tabR_ok tm 0 100 (by kernel_rfl) ?_
    refine G.cond false (by kernel_rfl) (fun hc => by cases hc) (fun _ => ?_)
    refine G.toPtr 7 2 (b := A.rb) (off := 0) (x := .lit 135 (repC A r x)) (by kernel_rfl) (by kernel_rfl) ?_
    refine G.runX tabR_ok tm 0 100 (by kernel_rfl) ?_
    have hlg : r.log = s.log := by rw [hr]; rfl
    have hacl : r.acks.length ≤ 900000 := by rw [hr]; exact Nat.zero_le _
    have hchl : r.changes.length ≤ 900000 := by rw [hr]; exact Nat.zero_le _
    have houl : r.out.length ≤ 700000 := by rw [hr]; exact Nat.zero_le _
    clear hr hrl
    refine G.callRepK 2 3 4 5 0 (by kernel_rfl) (f := 25) (svs := []) (d := some 37) rfl (by kernel_rfl) (by kernel_rfl) (by kernel_rfl) A r r x ⟨by kernel_rfl, by kernel_rfl, by kernel_rfl, by kernel_rfl, by kernel_rfl⟩ [] (by kernel_rfl) _ (f25_ok hro.log) hR ?_
    rintro h2 x2 _ hle2 hR2 ⟨p2, rfl, hp2⟩
    refine ⟨.one (.agg (staC r.sta p2)), fun N β _ => staC_ok hp2 N β, ?_⟩
    refine G.callP (f := 24) (svs := [.agg (staC r.sta p2)]) (d := some 38) (by kernel_rfl) [staV r.sta p2] (by kernel_rfl) (by kernel_rfl) (by kernel_rfl) (fun h' v => ∃ p', v = staV r.sta p' ∧ EntsR h' p' r.log) (fun w hw => f24_ok hp2 (by rw [show r.sta.log = s.log from hlg]; exact small_bnd hsm) (by have := hro.log.1; show r.log.length ≤ _; omega) hw) ?_
    rintro h3 _ ⟨p3, rfl, hp3⟩ hle3
    refine ⟨.one (.agg (staC r.sta p3)), fun N β _ => staC_ok (s := r.sta) hp3 N β, ?_⟩
    refine G.runX tabR_ok tm 0 100 (by kernel_rfl) ?_
    have hle03 : GLe h h3 := (hle1.trans hle2).trans hle3
    refine G.loop (α := Nat × RMem) (fun y => ⟨[(2, .one (.atom (.sl q l.length))), (4, .one (.atom (.ptr 1 0))), (6, .one (.atom (.bool false))), (7, .one (.atom (.ptr 2 0))), (9, .one (.atom (.ptr 6 0))), (10, .one (.atom (.int .i64 (roleI r.changing (Int.ofNat (r.n0 + 1)) r.view r.id)))), (41, .one (.atom (.sl q l.length))), (42, .one (.atom (.int .i64 l.length))), (43, .one (.atom (.int .i64 (y.1 : Nat))))],
        [(1, ⟨none, .lit 49 (staC s p)⟩), (2, ⟨some A.rb, .lit 135 (repC A r y.2)⟩), (3, ⟨some A.ab, .obj y.2.a⟩), (4, ⟨some A.sb, .obj y.2.s⟩), (5, ⟨some A.cb, .obj y.2.c⟩), (6, ⟨none, .lit 56 (staC r.sta p3)⟩)], 7, [(0, ⟨45, 8, y.2.ov, r.out.length, y.2.oxs⟩)]⟩)
      (fun y g => GLe h3 g ∧ y.1 ≤ l.length ∧ RepR g r y.2) (fun y => l.length - y.1) (0, x2) [2, 4, 6, 7, 9, 10, 41, 42, 43] [1, 2, 3, 4, 5, 6] 7 [0] (by kernel_rfl) (by kernel_rfl) (by kernel_rfl) ⟨GLe.refl _, Nat.zero_le _, hR2.mono hle3⟩ ?_
    rintro ⟨i, y⟩ g ⟨hle, hi, hRg⟩ IH
    simp only at hi hRg
    have hqg : SlR g 8 (MsgR g) q l := hq.mono (hle03.trans hle) fun _ _ hh => hh.mono (hle03.trans hle)
    refine G.runX tabR_ok tm 0 100 (by kernel_rfl) ?_
    refine G.cond (decide ((i : Int) < (l.length : Int))) (by kernel_rfl) (fun hb => ?_) (fun hb => ?_)
    · have hlt : i < l.length := by simpa using hb
      obtain ⟨m, hm⟩ := get_of_lt hlt
      refine G.runX tabR_ok tm 0 100 (by kernel_rfl) ?_
      refine G.idx (d1 := some 45) (g := none) (T := 50) (E := 45) hqg Try.underlying50 z45 hlt (by kernel_rfl) (by kernel_rfl) ?_
      refine G.elMsg (d1 := some 46) (g := none) rfl hqg hm (by kernel_rfl) (by kernel_rfl) fun p4 hp4 => ?_
      refine G.runX tabR_ok tm 0 100 (by kernel_rfl) ?_
      refine G.callV (f := 14) (svs := [.atom (.sl p4 m.log.length)]) (d := some 49) (by kernel_rfl) [p4] (.bool (smallLog m.log)) (by kernel_rfl) (by kernel_rfl) (by kernel_rfl) (fun w hw => smallLog_ok hp4 hw) ?_
      refine G.runX tabR_ok tm 0 100 (by kernel_rfl) ?_
      refine G.cond (!(smallLog m.log) || decide (m.view ≥ s.view)) (by kernel_rfl) (fun hb => ?_) (fun hb => ?_)
      · refine G.runX tabR_ok tm 0 100 (by kernel_rfl) ?_
        refine G.reint (k := .i64) 43 (by kernel_rfl) (wrap_succ hlt (by omega)) ?_
        exact G.back (by kernel_rfl) [2, 4, 6, 7, 9, 10, 41, 42, 43] [1, 2, 3, 4, 5, 6] 7 [0] (by kernel_rfl) (by kernel_rfl) (IH (i + 1, y) _ ⟨hle, hlt, hRg⟩ (by simp only; omega))
      · have hms : smallLog m.log = true := by
          cases h1 : smallLog m.log with
          | true => rfl
          | false => rw [h1] at hb; simp at hb
        have hvl : m.view < r.view := by rw [hms] at hb; simp at hb; rw [hview]; omega
        refine G.runX tabR_ok tm 0 100 (by kernel_rfl) ?_
        have hd := f27_ok (A := A) (h := g) (r := r) (m := m) (p := p4) hp4 (smallLog_logOk hms) hro hchl hacl houl
        cases hrf : r.refuses m with
        | true =>
          have e1 : r.deliver m = (r, [], 10) := by simp only [Rep.deliver, hrf, if_true]
          rw [e1] at hd
          refine G.callRepK 2 3 4 5 0 (by kernel_rfl) (f := 27) (svs := [.agg (msgC m p4)]) (d := some 61) rfl (by kernel_rfl) (by kernel_rfl) (by kernel_rfl) A r r y ⟨by kernel_rfl, by kernel_rfl, by kernel_rfl, by kernel_rfl, by kernel_rfl⟩ [msgV m p4] (by kernel_rfl) _ hd hRg ?_
          rintro h5 x5 _ hle5 hR5 ⟨s5, rfl, hs5⟩
          obtain ⟨ao, cp, rfl⟩ := hs5.isSlice
          refine ⟨.tup [.atom (.sl (.slice ao 0 cp) 0), .atom (.int .i64 10)], fun N β _ => ⟨_, rfl, ⟨rfl, _, _, rfl⟩, rfl, trivial⟩, ?_⟩
          refine G.runX tabR_ok tm 0 100 (by kernel_rfl) ?_
          refine G.cond false (by kernel_rfl) (fun hc => by cases hc) (fun _ => ?_)
          refine G.runX tabR_ok tm 0 100 (by kernel_rfl) ?_
          refine G.reint (k := .i64) 43 (by kernel_rfl) (wrap_succ hlt (by omega)) ?_
          exact G.back (by kernel_rfl) [2, 4, 6, 7, 9, 10, 41, 42, 43] [1, 2, 3, 4, 5, 6] 7 [0] (by kernel_rfl) (by kernel_rfl) (IH (i + 1, x5) _ ⟨hle.trans hle5, hlt, hR5⟩ (by simp only; omega))
        | false =>
          have e1 : r.deliver m = (r, [], 0) := by simp only [Rep.deliver, hrf, Bool.false_eq_true, if_false, if_pos hvl]
          rw [e1] at hd
          refine G.callRepK 2 3 4 5 0 (by kernel_rfl) (f := 27) (svs := [.agg (msgC m p4)]) (d := some 61) rfl (by kernel_rfl) (by kernel_rfl) (by kernel_rfl) A r r y ⟨by kernel_rfl, by kernel_rfl, by kernel_rfl, by kernel_rfl, by kernel_rfl⟩ [msgV m p4] (by kernel_rfl) _ hd hRg ?_
          rintro h5 x5 _ hle5 hR5 ⟨s5, rfl, hs5⟩
          obtain ⟨ao, cp, rfl⟩ := hs5.isSlice
          refine ⟨.tup [.atom (.sl (.slice ao 0 cp) 0), .atom (.int .i64 0)], fun N β _ => ⟨_, rfl, ⟨rfl, _, _, rfl⟩, rfl, trivial⟩, ?_⟩
          refine G.runX tabR_ok tm 0 100 (by kernel_rfl) ?_
          refine G.cond false (by kernel_rfl) (fun hc => by cases hc) (fun _ => ?_)
          refine G.runX tabR_ok tm 0 100 (by kernel_rfl) ?_
          refine G.reint (k := .i64) 43 (by kernel_rfl) (wrap_succ hlt (by omega)) ?_
          exact G.back (by kernel_rfl) [2, 4, 6, 7, 9, 10, 41, 42, 43] [1, 2, 3, 4, 5, 6] 7 [0] (by kernel_rfl) (by kernel_rfl) (IH (i + 1, x5) _ ⟨hle.trans hle5, hlt, hR5⟩ (by simp only; omega))
    · refine G.runX tabR_ok tm 0 100 (by kernel_rfl) ?_
      refine G.callRepK 2 3 4 5 0 (by kernel_rfl) (f := 25) (svs := []) (d := some 77) rfl (by kernel_rfl) (by kernel_rfl) (by kernel_rfl) A r r y ⟨by kernel_rfl, by kernel_rfl, by kernel_rfl, by kernel_rfl, by kernel_rfl⟩ [] (by kernel_rfl) _ (f25_ok hro.log) hRg ?_
      rintro h6 x6 _ hle6 hR6 ⟨p6, rfl, hp6⟩
      refine ⟨.one (.agg (staC r.sta p6)), fun N β _ => staC_ok hp6 N β, ?_⟩
      refine G.runX tabR_ok tm 0 100 (by kernel_rfl) ?_
      refine G.ret Try.func4 Try.results4 (.bool ((((roleI r.changing (Int.ofNat (r.n0 + 1)) r.view r.id == roleI r.changing (Int.ofNat (r.n0 + 1)) r.view r.id) && (r.view == r.view)) && (r.commit == r.commit)) && ((r.log.length : Int) == (r.log.length : Int)))) (by kernel_rfl) fun w' hf _ => ⟨by simp, hf.below⟩
end Go.Proofs.Ytkjahaoobdbffaa

/- The given inputs, as this seat's proofs see them. -/
namespace Go.Proofs.Ytkjahaoobdbffaa
open Go Go.RowKit

/-- All memory there is. -/
def heapG (w : World) : GH := fun b => w.heap[b]?
theorem heapG_sub (w : World) : Sub (heapG w) w := fun _ _ h => h

section
variable {H : Type} {enc : TypeId × Value → H} {P : Program} {w : World} {spare : Nat → Bool} {held : Bool}

theorem cell_block {a : Addr} {v : Value} (h : w.cell? a = some v) : ∃ arr T fr, w.heap[a.block]? = some (.cells arr T fr) ∧ a.spot = none ∧ arr[a.off]? = some v := by
  unfold World.cell? at h
  split at h
  · rename_i arr T fr hh
    split at h
    · simp at h
    · rename_i hs
      refine ⟨arr, T, fr, hh, ?_, h⟩
      cases hsp : a.spot with
      | none => rfl
      | some s => rw [hsp] at hs; simp at hs
  · simp at h

/-- No part weighs too much. -/
def WOk (P : Program) (t : TypeId) (d : DataW H) : Prop := ∀ n ∈ d.weights P t, n ≤ reachBytes

theorem weightsAll_mem {e : TypeId} : ∀ {l : List (DataW H)} {d : DataW H}, d ∈ l → ∀ n ∈ d.weights P e, n ∈ DataW.weightsAll P e l := by
  intro l
  induction l with
  | nil => intro d hd; simp at hd
  | cons a l ih =>
    intro d hd n hn
    simp only [DataW.weightsAll, List.mem_append]
    simp only [List.mem_cons] at hd
    rcases hd with rfl | hd
    · exact .inl hn
    · exact .inr (ih hd n hn)

theorem open_SlR {α : Type} {R : List Value → α → Prop} {t e : TypeId} {sz fuel : Nat} {v : Value} {x : DataW H × List MemPlace} (ht : P.underlying t = some (.slice e)) (hc : P.cellsOf e = sz) (hpos : 0 < sz) (hby : 0 < P.bytesOf e) (h : DataW.trod enc P w 0 spare held fuel t [v] = some x) (hw : WOk P t x.1)
    (hR : ∀ n cs y, DataW.trod enc P w 0 spare held n e cs = some y → WOk P e y.1 → ∃ r, R cs r) : ∃ l : List α, SlR (heapG w) sz R v l := by
  rcases Go.Deep.open_slice ht h with ⟨h1, -⟩ | ⟨a, len, cap, m, n, D, Pl, h1, -, hl, -, hmm, hxe, hx⟩
  · simp only [List.cons.injEq, and_true] at h1
    subst h1
    exact ⟨[], none, 0, rfl, Nat.le_refl _, by simp, .inl rfl⟩
  · simp only [List.cons.injEq, and_true] at h1
    subst h1
    have hwD : ∀ i, i < len → WOk P e (D i) := fun i hi k hk => hw k (by
      rw [hxe]; simp only [DataW.weights, ht]
      refine List.mem_cons_of_mem _ (List.mem_append_left _ (weightsAll_mem (d := D i) (List.mem_map.2 ⟨i, List.mem_range.2 hi, rfl⟩) k hk)))
    have hmax : len ≤ 140737488351232 := by
      have h2 := hw ((((List.range len).map D).length + ((List.range (m - len)).map fun j => D (len + j)).length) * P.bytesOf e) (by rw [hxe]; simp only [DataW.weights, ht]; exact List.mem_cons_self)
      simp only [List.length_map, List.length_range, reachBytes] at h2
      have h3 : len * 1 ≤ (len + (m - len)) * P.bytesOf e := Nat.mul_le_mul (by omega) hby
      omega
    have hle : len ≤ m := by rw [hmm]; split <;> omega
    rw [hc] at hx
    by_cases h0 : len = 0
    · subst h0
      exact ⟨[], some a, cap, rfl, Nat.zero_le _, by simp, .inl rfl⟩
    · obtain ⟨cs0, hcs0, -⟩ := hx 0 (by omega)
      obtain ⟨-, hl0, hcell0⟩ := World.cells?_some hcs0
      have h00 := hcell0 0 hpos
      simp only [Nat.zero_mul, Addr.add, if_true] at h00
      rw [List.getElem?_eq_getElem (by omega)] at h00
      obtain ⟨arr, T, fr, hb, hsp, -⟩ := cell_block h00
      obtain ⟨b, off, sp⟩ := a
      simp only at hsp hb
      subst hsp
      have hcells : ∀ i, i < len → off + (i + 1) * sz ≤ arr.size ∧ ∃ r, R ((arr.toList.drop (off + i * sz)).take sz) r := by
        intro i hi
        obtain ⟨cs, hcs, htr⟩ := hx i (by omega)
        obtain ⟨-, hlc, hcell⟩ := World.cells?_some hcs
        have hget : ∀ j, j < sz → arr[off + i * sz + j]? = cs[j]? := fun j hj => by
          have := hcell j hj
          rw [Addr.add_lit, Addr.add_lit, cell_of_heap hb] at this
          exact this
        have hlast := hget (sz - 1) (by omega)
        rw [List.getElem?_eq_getElem (by omega)] at hlast
        have hlt := (Array.getElem?_eq_some_iff.1 hlast).1
        refine ⟨by rw [Nat.add_mul]; omega, ?_⟩
        obtain ⟨r, hr⟩ := hR n cs _ htr (hwD i hi)
        refine ⟨r, ?_⟩
        have he : (arr.toList.drop (off + i * sz)).take sz = cs := by
          apply List.ext_getElem?
          intro j
          by_cases hj : j < sz
          · rw [List.getElem?_take, if_pos hj, List.getElem?_drop, ← hget j hj]; simp
          · rw [List.getElem?_eq_none (by simp; omega), List.getElem?_eq_none (by omega)]
        rw [he]; exact hr
      have hall : ∀ k, k ≤ len → ∃ l : List α, l.length = k ∧ ∀ i r, l[i]? = some r → R ((arr.toList.drop (off + i * sz)).take sz) r := by
        intro k
        induction k with
        | zero => intro _; exact ⟨[], rfl, fun i r h => by simp at h⟩
        | succ k ih =>
          intro hk
          obtain ⟨l, hl1, hl2⟩ := ih (by omega)
          obtain ⟨-, r, hr⟩ := hcells k (by omega)
          refine ⟨l ++ [r], by simp [hl1], fun i s hs => ?_⟩
          by_cases hi : i < l.length
          · rw [List.getElem?_append_left hi] at hs; exact hl2 i s hs
          · have hi' : i = k := by
              have := (List.getElem?_eq_some_iff.1 hs).1
              simp at this; omega
            subst hi'
            rw [List.getElem?_append_right (by omega)] at hs
            simp [hl1] at hs; subst hs; exact hr
      obtain ⟨l, hl1, hl2⟩ := hall len (Nat.le_refl _)
      have hend := (hcells (len - 1) (by omega)).1
      rw [show len - 1 + 1 = len by omega] at hend
      refine ⟨l, some ⟨b, off, none⟩, cap, by rw [hl1], by omega, by omega, .inr ⟨b, off, arr, T, fr, rfl, hb, by rw [hl1]; exact hend, hl2⟩⟩
end

section
variable {H : Type} {enc : TypeId × Value → H} {w : World} {spare : Nat → Bool} {held : Bool} {fuel : Nat} {cs : List Value} {x : DataW H × List MemPlace}

theorem co114 : Try.prog.cellsOf 114 = 5 := by kernel_rfl
theorem co34 : Try.prog.cellsOf 34 = 9 := by kernel_rfl
theorem co32 : Try.prog.cellsOf 32 = 6 := by kernel_rfl
theorem co3 : Try.prog.cellsOf 3 = 1 := by kernel_rfl
theorem co9 : Try.prog.cellsOf 9 = 1 := by kernel_rfl
theorem co29 : Try.prog.cellsOf 29 = 1 := by kernel_rfl
theorem co30 : Try.prog.cellsOf 30 = 1 := by kernel_rfl
theorem by114 : 0 < Try.prog.bytesOf 114 := of_decide_eq_true (by kernel_rfl)
theorem by34 : 0 < Try.prog.bytesOf 34 := of_decide_eq_true (by kernel_rfl)
theorem by3 : 0 < Try.prog.bytesOf 3 := of_decide_eq_true (by kernel_rfl)
theorem co22 : Try.prog.cellsOf 22 = 1 := by kernel_rfl

def i64Ok (n : Int) : Prop := -9223372036854775808 ≤ n ∧ n ≤ 9223372036854775807

theorem open_i {n : Nat} {y : DataW H × List MemPlace} {c : Value} (h : DataW.trod enc Try.prog w 0 spare held n 3 [c] = some y) : ∃ n, c = .int .i64 n ∧ i64Ok n := by
  obtain ⟨n, h1, -, h3⟩ := DataW.trod_int Try.underlying3 h
  simp only [List.cons.injEq, and_true] at h1
  refine ⟨n, h1, ?_⟩
  have : (IntKind.i64.min ≤ n && n ≤ IntKind.i64.max) = true := h3
  simp only [Bool.and_eq_true, decide_eq_true_eq] at this
  exact this

theorem open_s {n : Nat} {y : DataW H × List MemPlace} {c : Value} (h : DataW.trod enc Try.prog w 0 spare held n 9 [c] = some y) : ∃ s, c = .string s := by
  obtain ⟨s, h1, -, -⟩ := DataW.trod_string Try.underlying9 h
  simp only [List.cons.injEq, and_true] at h1
  exact ⟨s, h1⟩

theorem len5 {α : Type} {l : List α} (h : l.length = 5) : ∃ a b c d e, l = [a, b, c, d, e] := by
  match l, h with
  | [a, b, c, d, e], _ => exact ⟨a, b, c, d, e, rfl⟩
theorem len6 {α : Type} {l : List α} (h : l.length = 6) : ∃ a b c d e f, l = [a, b, c, d, e, f] := by
  match l, h with
  | [a, b, c, d, e, f], _ => exact ⟨a, b, c, d, e, f, rfl⟩
theorem len9 {α : Type} {l : List α} (h : l.length = 9) : ∃ a b c d e f g i j, l = [a, b, c, d, e, f, g, i, j] := by
  match l, h with
  | [a, b, c, d, e, f, g, i, j], _ => exact ⟨a, b, c, d, e, f, g, i, j, rfl⟩


theorem fldAt {t : TypeId} {fs : Array Field} (ht : Try.prog.underlying t = some (.struct fs)) (h : DataW.trod enc Try.prog w 0 spare held fuel t cs = some x) (hw : WOk Try.prog t x.1) : cs.length = Try.prog.cellsOf t ∧ ∀ (i t' o k : Nat), (fs[i]?).map (fun f => (f.type, f.offset)) = some (t', o) → Try.prog.cellsOf t' = k →
    ∃ n y, DataW.trod enc Try.prog w 0 spare held n t' ((cs.drop o).take k) = some y ∧ WOk Try.prog t' y.1 := by
  obtain ⟨xs, n, -, hxe, hl, hxl, hf⟩ := DataW.trod_struct ht h
  refine ⟨hl, fun i t' o k h1 h2 => ?_⟩
  obtain ⟨f, h3, h4⟩ := Option.map_eq_some_iff.1 h1
  simp only [Prod.mk.injEq] at h4
  obtain ⟨rfl, rfl⟩ := h4
  subst h2
  have h5 := hf i f h3
  have hi : i < xs.length := by rw [hxl]; exact (Array.getElem?_eq_some_iff.1 h3).1
  refine ⟨n, xs[i], by rw [h5]; simp [hi], fun m hm => hw m ?_⟩
  rw [hxe]
  simp only [DataW.weights, ht]
  have h6 : (fs.toList.map (·.type))[i]? = some f.type := by simp [h3]
  have h7 : (xs.map (·.1))[i]? = some xs[i].1 := by simp [hi]
  exact DataW.weights_mem_each h6 h7 m hm

theorem open_rul (h : DataW.trod enc Try.prog w 0 spare held fuel 114 cs = some x) (hw : WOk Try.prog 114 x.1) : ∃ r, RulR cs r := by
  obtain ⟨hl, hf⟩ := fldAt Try.underlying114 h hw
  rw [co114] at hl
  obtain ⟨c0, c1, c2, c3, c4, rfl⟩ := len5 hl
  obtain ⟨_, _, f0, w0⟩ := hf 0 3 0 1 rfl co3
  obtain ⟨_, _, f1, w1⟩ := hf 1 3 1 1 rfl co3
  obtain ⟨_, _, f2, w2⟩ := hf 2 3 2 1 rfl co3
  obtain ⟨_, _, f3, w3⟩ := hf 3 3 3 1 rfl co3
  obtain ⟨_, _, f4, w4⟩ := hf 4 9 4 1 rfl co9
  obtain ⟨n0, rfl, -⟩ := open_i f0
  obtain ⟨n1, rfl, -⟩ := open_i f1
  obtain ⟨n2, rfl, -⟩ := open_i f2
  obtain ⟨n3, rfl, -⟩ := open_i f3
  obtain ⟨s, rfl⟩ := open_s f4
  exact ⟨⟨n0, n1, n2, n3, s⟩, rfl⟩

theorem open_intR (h : DataW.trod enc Try.prog w 0 spare held fuel 3 cs = some x) : ∃ r, IntR cs r := by
  obtain ⟨n, h1, -, h3⟩ := DataW.trod_int Try.underlying3 h
  exact ⟨n, h1⟩

theorem open_del (h : DataW.trod enc Try.prog w 0 spare held fuel 32 cs = some x) (hw : WOk Try.prog 32 x.1) : ∃ a b c d p q, cs = [.int .i64 a, .int .i64 b, .int .i64 c, .int .i64 d, p, q] ∧ (∃ l, SlR (heapG w) 5 RulR p l) ∧ ∃ k, SlR (heapG w) 1 IntR q k := by
  obtain ⟨hl, hf⟩ := fldAt Try.underlying32 h hw
  rw [co32] at hl
  obtain ⟨c0, c1, c2, c3, c4, c5, rfl⟩ := len6 hl
  obtain ⟨_, _, f0, w0⟩ := hf 0 3 0 1 rfl co3
  obtain ⟨_, _, f1, w1⟩ := hf 1 3 1 1 rfl co3
  obtain ⟨_, _, f2, w2⟩ := hf 2 3 2 1 rfl co3
  obtain ⟨_, _, f3, w3⟩ := hf 3 3 3 1 rfl co3
  obtain ⟨_, _, f4, w4⟩ := hf 4 29 4 1 rfl co29
  obtain ⟨_, _, f5, w5⟩ := hf 5 30 5 1 rfl co30
  obtain ⟨n0, rfl, -⟩ := open_i f0
  obtain ⟨n1, rfl, -⟩ := open_i f1
  obtain ⟨n2, rfl, -⟩ := open_i f2
  obtain ⟨n3, rfl, -⟩ := open_i f3
  exact ⟨n0, n1, n2, n3, c4, c5, rfl, open_SlR Try.underlying29 co114 (by decide) by114 f4 w4 fun n cs y hy hw => open_rul hy hw, open_SlR Try.underlying30 co3 (by decide) by3 f5 w5 fun n cs y hy _ => open_intR hy⟩

theorem open_ent (h : DataW.trod enc Try.prog w 0 spare held fuel 34 cs = some x) (hw : WOk Try.prog 34 x.1) : ∃ e, EntR (heapG w) cs e := by
  obtain ⟨hl, hf⟩ := fldAt Try.underlying34 h hw
  rw [co34] at hl
  obtain ⟨c0, c1, c2, c3, c4, c5, c6, c7, c8, rfl⟩ := len9 hl
  obtain ⟨_, _, f0, w0⟩ := hf 0 3 0 1 rfl co3
  obtain ⟨_, _, f1, w1⟩ := hf 1 3 1 1 rfl co3
  obtain ⟨_, _, f2, w2⟩ := hf 2 3 2 1 rfl co3
  obtain ⟨_, _, f3, w3⟩ := hf 3 32 3 6 rfl co32
  obtain ⟨n0, rfl, -⟩ := open_i f0
  obtain ⟨n1, rfl, -⟩ := open_i f1
  obtain ⟨n2, rfl, -⟩ := open_i f2
  obtain ⟨a, b, c, d, p, q, hd, ⟨l, hp⟩, k, hq⟩ := open_del f3 w3
  simp only [List.drop_succ_cons, List.drop_zero, List.take_succ_cons, List.take_zero, List.cons.injEq, and_true] at hd
  obtain ⟨rfl, rfl, rfl, rfl, rfl, rfl⟩ := hd
  exact ⟨⟨n0, n1, n2, a, b, c, d, l, k⟩, _, _, rfl, hp, hq⟩

theorem open_ents {v : Value} (h : DataW.trod enc Try.prog w 0 spare held fuel 22 [v] = some x) (hw : WOk Try.prog 22 x.1) : ∃ l, EntsR (heapG w) v l :=
  open_SlR Try.underlying22 co34 (by decide) by34 h hw fun n cs y hy hw => open_ent hy hw
end
end Go.Proofs.Ytkjahaoobdbffaa

/- The given inputs of the replica's laws, as this seat's proofs see them. -/
namespace Go.Proofs.Ytkjahaoobdbffaa
open Go Go.RowKit

section
variable {H : Type} {enc : TypeId × Value → H} {w : World} {spare : Nat → Bool} {held : Bool} {fuel : Nat} {cs : List Value} {x : DataW H × List MemPlace}

theorem co47 : Try.prog.cellsOf 47 = 3 := by kernel_rfl
theorem co49 : Try.prog.cellsOf 49 = 5 := by kernel_rfl
theorem co45 : Try.prog.cellsOf 45 = 8 := by kernel_rfl
theorem by45 : 0 < Try.prog.bytesOf 45 := of_decide_eq_true (by kernel_rfl)

theorem len3 {α : Type} {l : List α} (h : l.length = 3) : ∃ a b c, l = [a, b, c] := by
  match l, h with
  | [a, b, c], _ => exact ⟨a, b, c, rfl⟩
theorem len8 {α : Type} {l : List α} (h : l.length = 8) : ∃ a b c d e f g i, l = [a, b, c, d, e, f, g, i] := by
  match l, h with
  | [a, b, c, d, e, f, g, i], _ => exact ⟨a, b, c, d, e, f, g, i, rfl⟩

theorem open_cfg (h : DataW.trod enc Try.prog w 0 spare held fuel 47 cs = some x) (hw : WOk Try.prog 47 x.1) : ∃ a b c, cs = [.int .i64 a, .int .i64 b, .int .i64 c] := by
  obtain ⟨hl, hf⟩ := fldAt Try.underlying47 h hw
  rw [co47] at hl
  obtain ⟨c0, c1, c2, rfl⟩ := len3 hl
  obtain ⟨_, _, f0, w0⟩ := hf 0 3 0 1 rfl co3
  obtain ⟨_, _, f1, w1⟩ := hf 1 3 1 1 rfl co3
  obtain ⟨_, _, f2, w2⟩ := hf 2 3 2 1 rfl co3
  obtain ⟨n0, rfl, -⟩ := open_i f0
  obtain ⟨n1, rfl, -⟩ := open_i f1
  obtain ⟨n2, rfl, -⟩ := open_i f2
  exact ⟨n0, n1, n2, rfl⟩

theorem open_sta (h : DataW.trod enc Try.prog w 0 spare held fuel 49 cs = some x) (hw : WOk Try.prog 49 x.1) : ∃ (s : Sta) (p : Value), cs = [.int .i64 s.view, .int .i64 s.normal, .int .i64 s.commit, .int .i64 s.active, p] ∧ EntsR (heapG w) p s.log := by
  obtain ⟨hl, hf⟩ := fldAt Try.underlying49 h hw
  rw [co49] at hl
  obtain ⟨c0, c1, c2, c3, c4, rfl⟩ := len5 hl
  obtain ⟨_, _, f0, w0⟩ := hf 0 3 0 1 rfl co3
  obtain ⟨_, _, f1, w1⟩ := hf 1 3 1 1 rfl co3
  obtain ⟨_, _, f2, w2⟩ := hf 2 3 2 1 rfl co3
  obtain ⟨_, _, f3, w3⟩ := hf 3 3 3 1 rfl co3
  obtain ⟨_, _, f4, w4⟩ := hf 4 22 4 1 rfl co22
  obtain ⟨n0, rfl, -⟩ := open_i f0
  obtain ⟨n1, rfl, -⟩ := open_i f1
  obtain ⟨n2, rfl, -⟩ := open_i f2
  obtain ⟨n3, rfl, -⟩ := open_i f3
  obtain ⟨l, hp⟩ := open_ents f4 w4
  exact ⟨⟨n0, n1, n2, n3, l⟩, c4, rfl, hp⟩

theorem open_msg (h : DataW.trod enc Try.prog w 0 spare held fuel 45 cs = some x) (hw : WOk Try.prog 45 x.1) : ∃ m, MsgR (heapG w) cs m := by
  obtain ⟨hl, hf⟩ := fldAt Try.underlying45 h hw
  rw [co45] at hl
  obtain ⟨c0, c1, c2, c3, c4, c5, c6, c7, rfl⟩ := len8 hl
  obtain ⟨_, _, f0, w0⟩ := hf 0 3 0 1 rfl co3
  obtain ⟨_, _, f1, w1⟩ := hf 1 3 1 1 rfl co3
  obtain ⟨_, _, f2, w2⟩ := hf 2 3 2 1 rfl co3
  obtain ⟨_, _, f3, w3⟩ := hf 3 3 3 1 rfl co3
  obtain ⟨_, _, f4, w4⟩ := hf 4 3 4 1 rfl co3
  obtain ⟨_, _, f5, w5⟩ := hf 5 3 5 1 rfl co3
  obtain ⟨_, _, f6, w6⟩ := hf 6 3 6 1 rfl co3
  obtain ⟨_, _, f7, w7⟩ := hf 7 22 7 1 rfl co22
  obtain ⟨n0, rfl, -⟩ := open_i f0
  obtain ⟨n1, rfl, -⟩ := open_i f1
  obtain ⟨n2, rfl, -⟩ := open_i f2
  obtain ⟨n3, rfl, -⟩ := open_i f3
  obtain ⟨n4, rfl, -⟩ := open_i f4
  obtain ⟨n5, rfl, -⟩ := open_i f5
  obtain ⟨n6, rfl, -⟩ := open_i f6
  obtain ⟨l, hp⟩ := open_ents f7 w7
  exact ⟨⟨n0, n1, n2, n3, n4, n5, n6, l⟩, c7, rfl, hp⟩

theorem open_msgs {v : Value} (h : DataW.trod enc Try.prog w 0 spare held fuel 50 [v] = some x) (hw : WOk Try.prog 50 x.1) : ∃ l, SlR (heapG w) 8 (MsgR (heapG w)) v l :=
  open_SlR Try.underlying50 co45 (by decide) by45 h hw fun n cs y hy hw => open_msg hy hw
end
end Go.Proofs.Ytkjahaoobdbffaa
