/- PackSame answers true. -/
import Derived.Test.YtkjahaoobdbffaaK12
import Derived.Test.YtkjahaoobdbffaaK13
import Derived.Test.YtkjahaoobdbffaaK20
import Derived.Test.YtkjahaoobdbffaaL1
import Derived.Test.YtkjahaoobdbffaaB18
namespace Go.Proofs.Ytkjahaoobdbffaa
open Go Go.RowKit
attribute [local irreducible] G GD GDop

theorem SlR.single {h : GH} {b cap : Nat} {e : Ent} {p d : Value} {T : TypeId} {fr : Nat × Nat} (hb : h b = some (.cells (entA e p d) T fr)) (hp : SlR h 5 RulR p e.put) (hd : SlR h 1 IntR d e.drop) (hc : 1 ≤ cap) : EntsR h (.slice (some ⟨b, 0, none⟩) 1 cap) [e] := by
  refine ⟨_, cap, rfl, hc, by simp, .inr ⟨b, 0, _, T, fr, rfl, hb, by simp [entA], fun i x hx => ?_⟩⟩
  cases i with
  | zero => simp at hx; subst hx; exact EntR.mk hp hd
  | succ i => simp at hx

section w
variable {h : GH} {w : World}

set_option maxHeartbeats 4000000 in
theorem f3_ok {va vb : Value} {a b : List Ent} (ha : EntsR h va a) (hb : EntsR h vb b) (hs : Sub h w) : Calls Try.prog 3 #[va, vb] w fun e w' => e = .returned (.bool true) ∧ Below w.heap.size w w' := by
  have hlen := SlR.len ha
  refine Calls.enter [.atom (.sl va a.length), .atom (.sl vb b.length)] Try.func3 (c := bodyOf Try.f3) (by kernel_rfl) Try.ntmps3 ⟨SlR.sv ha _ _, SlR.sv hb _ _, trivial⟩ (by simp) hs ?_
  refine G.runE tm 100 ?_
  refine G.callV (f := 13) (svs := []) (d := some 12) (by kernel_rfl) [] (.bool true) (by kernel_rfl) (by kernel_rfl) (by kernel_rfl) (fun w hs => f13_ok hs) ?_
  refine G.runE tm 100 ?_
  refine G.condF (b := !true) (by kernel_rfl) rfl ?_
  refine G.runE tm 100 ?_
  refine G.callV (f := 14) (svs := [.atom (.sl va a.length)]) (d := some 15) (by kernel_rfl) [va] (.bool (smallLog a)) (by kernel_rfl) (by kernel_rfl) (by kernel_rfl) (fun w hs => smallLog_ok ha hs) ?_
  refine G.runE tm 100 ?_
  refine G.callGV (f := 14) (svs := [.atom (.sl vb b.length)]) (d := 19) (tg := 17) (want := false) (by kernel_rfl) [vb] (.bool (smallLog b)) (by kernel_rfl) (by kernel_rfl) (by kernel_rfl) (says_of fun w hs => smallLog_ok hb hs) ?_
  refine G.runE tm 100 ?_
  refine G.cond (!(smallLog a) || !(smallLog b)) (by kernel_rfl) (fun hc => ?_) (fun hc => ?_)
  · refine G.runE tm 100 ?_
    exact G.ret Try.func3 Try.results3 (.bool true) (by kernel_rfl) fun w' hf _ => ⟨rfl, hf.below⟩
  have hc : smallLog a = true ∧ smallLog b = true := by simpa using hc
  obtain ⟨hca, hcb⟩ := hc
  obtain ⟨la1, la2, la3⟩ := small_len hca
  obtain ⟨lb1, lb2, lb3⟩ := small_len hcb
  refine G.runE tm 100 ?_
  refine G.callV (f := 15) (svs := [.atom (.sl va a.length), .atom (.sl vb b.length)]) (d := some 24) (by kernel_rfl) [va, vb] (.bool (decide (a = b))) (by kernel_rfl) (by kernel_rfl) (by kernel_rfl) (fun w hs => f15_ok ha hb hs) ?_
  refine G.runE tm 100 ?_
  refine G.callP (f := 17) (svs := [.atom (.sl va a.length)]) (d := some 27) (by kernel_rfl) [va] (by kernel_rfl) (by kernel_rfl) (by kernel_rfl)
    (fun h' v => EntsR h' v a) (fun w hw => (f17_ok ha la2 (by omega) hw).mono fun e w' ⟨v, h', e1, e2, e3⟩ => ⟨v, h', e1, e2, e3⟩) ?_
  rintro h1 va' ha' hle1
  refine ⟨.one (.atom (.sl va' a.length)), fun N β _ => SlR.sv ha' N β, ?_⟩
  refine G.runE tm 100 ?_
  refine G.callP (f := 17) (svs := [.atom (.sl vb b.length)]) (d := some 29) (by kernel_rfl) [vb] (by kernel_rfl) (by kernel_rfl) (by kernel_rfl)
    (fun h' v => EntsR h' v b) (fun w hw => (f17_ok (hb.mono hle1) lb2 (by omega) hw).mono fun e w' ⟨v, h', e1, e2, e3⟩ => ⟨v, h', e1, e2, e3⟩) ?_
  rintro h2 vb' hb' hle2
  refine ⟨.one (.atom (.sl vb' b.length)), fun N β _ => SlR.sv hb' N β, ?_⟩
  refine G.runE tm 100 ?_
  refine G.callV (f := 16) (svs := [.atom (.sl va' a.length), .atom (.sl vb' b.length)]) (d := some 30) (by kernel_rfl) [va', vb'] (.bool (decide (a = b))) (by kernel_rfl) (by kernel_rfl) (by kernel_rfl) (fun w hs => f16_ok (ha'.mono hle2) hb' hs) ?_
  refine G.runE tm 100 ?_
  refine G.condF (b := !(decide (a = b) == decide (a = b))) (by kernel_rfl) (by simp) ?_
  refine G.runE tm 100 ?_
  refine G.loop (α := Nat)
    (fun i => ⟨[(0, .one (.atom (.sl va a.length))), (1, .one (.atom (.sl vb b.length))), (5, .one (.atom (.bool (decide (a = b))))), (32, .one (.atom (.sl va a.length))), (33, .one (.atom (.int .i64 a.length))), (34, .one (.atom (.int .i64 i)))], [], 0, []⟩)
    (fun i g => GLe h g ∧ i ≤ a.length) (fun i => a.length - i) 0 [0, 1, 5, 32, 33, 34] [] 0 [] (by kernel_rfl) (by kernel_rfl) (by kernel_rfl) ⟨hle1.trans hle2, Nat.zero_le _⟩ ?_
  rintro i g ⟨hg, hi⟩ IH
  refine G.runE tm 100 ?_
  refine G.cond (decide ((i : Int) < (a.length : Int))) (by kernel_rfl) (fun hc => ?_) (fun hc => ?_)
  · have hlt : i < a.length := by simpa using hc
    obtain ⟨e, he⟩ := get_of_lt hlt
    refine G.runE tm 100 ?_
    refine G.idx (d1 := some 36) (g := none) (T := 22) (E := 34) (ha.mono hg) Try.underlying22 z34 hlt (by kernel_rfl) (by kernel_rfl) ?_
    refine G.elEnt (d1 := some 37) (g := none) (E := 34) (ha.mono hg) z34 u34 he (by kernel_rfl) (by kernel_rfl) fun p d hp hd => ?_
    refine G.runE tm 100 ?_
    refine G.draw [0] tm (by kernel_rfl) (by kernel_rfl) ?_
    refine GD.run (by kernel_rfl) 50 ?_
    refine GD.two 1 3 (by kernel_rfl)
      (GDop.callV (f := 18) (svs := [.agg (entC e p d)]) (dst := some 39) (by kernel_rfl) [entV e p d] (.bool (entRight e)) (by kernel_rfl) (by kernel_rfl) (by kernel_rfl) (by kernel_rfl) (fun w hw => f18_ok hp hd hw) (GD.run (by kernel_rfl) 50 ?_))
      (GDop.eff (by kernel_rfl) (GD.run (by kernel_rfl) 50 (GD.one 1 (by kernel_rfl) (GDop.callV (f := 18) (svs := [.agg (entC e p d)]) (dst := some 39) (by kernel_rfl) [entV e p d] (.bool (entRight e)) (by kernel_rfl) (by kernel_rfl) (by kernel_rfl) (by kernel_rfl) (fun w hw => f18_ok hp hd hw) (GD.run (by kernel_rfl) 50 ?_)))))
    all_goals
      refine GD.freezeBox 1 41 (off := 0) (m := 1) (cp := 1) (bi := none) (T := 34) (cs := entC e p d) (vs := (entA e p d).toList) (by kernel_rfl) (by kernel_rfl) (by kernel_rfl) (by kernel_rfl) fun bb g1 hg1 hbb => ?_
      have hone : EntsR g1 (.slice (some ⟨bb, 0, none⟩) 1 1) [e] := SlR.single hbb (hp.mono hg1 fun _ _ h => h) (hd.mono hg1 fun _ _ h => h) (Nat.le_refl _)
      refine GD.one 4 (by kernel_rfl) (GDop.callP (f := 17) (svs := [.atom (.sl (.slice (some ⟨bb, 0, none⟩) 1 1) 1)]) (dst := some 42) (by kernel_rfl) [.slice (some ⟨bb, 0, none⟩) 1 1] (by kernel_rfl) (by kernel_rfl) (by kernel_rfl) (by kernel_rfl)
        (fun h' v => EntsR h' v [e]) (fun w hw => (f17_ok hone (fun x hx => la2 x (by simp only [List.mem_singleton] at hx; subst hx; exact List.mem_of_getElem? he)) (by simp) hw).mono fun e w' ⟨v, h', e1, e2, e3⟩ => ⟨v, h', e1, e2, e3⟩) ?_)
      rintro g2 vv hvv hg2
      refine ⟨.one (.atom (.sl vv 1)), fun N β _ => SlR.sv hvv N β, ?_⟩
      refine GD.run (by kernel_rfl) 50 ?_
      refine GD.one 5 (by kernel_rfl) (GDop.idx (d1 := some 43) (g := none) (T := 27) (E := 39) hvv Try.underlying27 z39 (i := 0) (by simp) (by kernel_rfl) (by kernel_rfl) ?_)
      refine GD.one 6 (by kernel_rfl) (GDop.elEnt (d1 := some 44) (g := none) (E := 39) hvv z39 u39 (i := 0) (e := e) rfl (by kernel_rfl) (by kernel_rfl) fun p' d' hp' hd' => ?_)
      refine GD.one 7 (by kernel_rfl) (GDop.callV (f := 19) (svs := [.agg (entC e p' d')]) (dst := some 45) (by kernel_rfl) [entV e p' d'] (.bool (entRight e)) (by kernel_rfl) (by kernel_rfl) (by kernel_rfl) (by kernel_rfl) (fun w hw => f19_ok hp' hd' hw) ?_)
      refine GD.run (by kernel_rfl) 50 ?_
      refine GD.fin (by kernel_rfl) ?_
      refine G.runE tm 100 ?_
      refine G.condF (b := !(entRight e == entRight e)) (by kernel_rfl) (by simp) ?_
      refine G.runE tm 100 ?_
      refine G.reint (k := .i64) 34 (by kernel_rfl) (wrap_succ hlt hlen) ?_
      exact G.back (by kernel_rfl) [0, 1, 5, 32, 33, 34] [] 0 [] (by kernel_rfl) (by kernel_rfl) (IH (i + 1) _ ⟨hg.trans (hg1.trans hg2), hlt⟩ (by omega))
  · obtain rfl : i = a.length := by simp at hc; omega
    refine G.runE tm 100 ?_
    have ha1 := ha.mono hg
    have hb1 := hb.mono hg
    refine G.callP (f := 20) (svs := [.agg (msgC (msg5 a) va)]) (d := some 51) (by kernel_rfl) [msgV (msg5 a) va] (by kernel_rfl) (by kernel_rfl) (by kernel_rfl)
      (fun h' v => ∃ x err n, v = .tuple #[x, .int .i64 err] ∧ (err = 0 → msgRight (msg5 a) = true ∧ BytesR h' x (msgB (msg5 a))) ∧ ∃ aa c, x = .slice aa n c) (fun w hw => (f20_ok (m := msg5 a) ha1 hw (by omega)).mono ?_) ?_
    · rintro e w' ⟨x, err, h', rfl, hg', h3, -, aa, n, c, hx⟩
      exact ⟨_, h', rfl, hg', x, err, n, rfl, fun h0 => ⟨(h3 h0).1, (h3 h0).2.2⟩, aa, c, hx⟩
    rintro g1 v ⟨xa, ea, na, rfl, hea, hsa⟩ hle3
    refine ⟨.tup [.atom (.sl xa na), .atom (.int .i64 ea)], fun N β tmps => ⟨_, rfl, ⟨rfl, hsa⟩, rfl, trivial⟩, ?_⟩
    refine G.runE tm 100 ?_
    refine G.callP (f := 20) (svs := [.agg (msgC (msg5 b) vb)]) (d := some 57) (by kernel_rfl) [msgV (msg5 b) vb] (by kernel_rfl) (by kernel_rfl) (by kernel_rfl)
      (fun h' v => ∃ x err n, v = .tuple #[x, .int .i64 err] ∧ (err = 0 → msgRight (msg5 b) = true ∧ BytesR h' x (msgB (msg5 b))) ∧ ∃ aa c, x = .slice aa n c) (fun w hw => (f20_ok (m := msg5 b) (hb1.mono hle3) hw (by omega)).mono ?_) ?_
    · rintro e w' ⟨x, err, h', rfl, hg', h3, -, aa, n, c, hx⟩
      exact ⟨_, h', rfl, hg', x, err, n, rfl, fun h0 => ⟨(h3 h0).1, (h3 h0).2.2⟩, aa, c, hx⟩
    rintro g2 v ⟨xb, eb, nb, rfl, heb, hsb⟩ hle4
    refine ⟨.tup [.atom (.sl xb nb), .atom (.int .i64 eb)], fun N β tmps => ⟨_, rfl, ⟨rfl, hsb⟩, rfl, trivial⟩, ?_⟩
    refine G.runE tm 100 ?_
    obtain ⟨ia, hia, hra⟩ := IsB.msg (msg5 a)
    obtain ⟨ib, hib, hrb⟩ := IsB.msg (msg5 b)
    refine G.sem (m := valS (convert 40 9 xa)) (d := some 69) (g := some (66, false)) (by kernel_rfl) (by kernel_rfl) (.string (bstr ia)) (.atom (.str (bstr ia))) (fun _ _ => rfl) (says_if ((ea != 0) || (eb != 0)) (by kernel_rfl) fun h0 w hw => ?_) ?_
    · have h0 : ea = 0 ∧ eb = 0 := by simpa using h0
      have := (hea h0.1).2
      rw [hia] at this
      exact run_valS (BytesR.str (SlR.mono this hle4 fun _ _ h => h) hw)
    refine G.runE tm 100 ?_
    refine G.sem (m := valS (convert 40 9 xb)) (d := some 71) (g := some (66, false)) (by kernel_rfl) (by kernel_rfl) (.string (bstr ib)) (.atom (.str (bstr ib))) (fun _ _ => rfl) (says_if ((ea != 0) || (eb != 0)) (by kernel_rfl) fun h0 w hw => ?_) ?_
    · have h0 : ea = 0 ∧ eb = 0 := by simpa using h0
      have := (heb h0.2).2
      rw [hib] at this
      exact run_valS (BytesR.str this hw)
    refine G.sem (m := valS (do eqGuard .eql 9 (.tmp 69) (.tmp 71) (.string (bstr ia)) (.string (bstr ib)); binOp .eql 9 (.string (bstr ia)) (.string (bstr ib)))) (d := some 72) (g := some (66, false)) (by kernel_rfl) (by kernel_rfl) (.bool (decide (bstr ia = bstr ib))) (.atom (.bool (decide (bstr ia = bstr ib)))) (fun _ _ => rfl)
      (says_of fun w _ => run_valS (run_eql_str _ _ _ _ w)) ?_
    refine G.runE tm 100 ?_
    have hfin : (((ea != 0) || (eb != 0)) || (decide (a = b) == decide (bstr ia = bstr ib))) = true := by
      by_cases h0 : ea = 0
      · by_cases h1 : eb = 0
        · rw [pack_same hia hib hra hrb (hea h0).1 (heb h1).1]; simp
        · simp [h1]
      · simp [h0]
    exact G.ret Try.func3 Try.results3 (.bool (((ea != 0) || (eb != 0)) || (decide (a = b) == decide (bstr ia = bstr ib)))) (by kernel_rfl) fun w' hf _ => ⟨by rw [hfin], hf.below⟩
end w
end Go.Proofs.Ytkjahaoobdbffaa
