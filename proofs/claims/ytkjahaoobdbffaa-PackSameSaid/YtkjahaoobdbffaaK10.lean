/- The codec as a writer: messages and records. -/
import Derived.Test.YtkjahaoobdbffaaK8
import Derived.Test.YtkjahaoobdbffaaK9
namespace Go.Proofs.Ytkjahaoobdbffaa
open Go Go.RowKit
attribute [local irreducible] G GD GDop

section w
variable {h : GH} {w : World}

def msgNs (m : Msg) : List Int := [m.kind, m.view, m.frm, m.to, m.op, m.commit, m.normal]
def msgB (m : Msg) : List Value := (msgNs m).flatMap numV ++ entsB m.log
def msgA (m : Msg) (p : Value) : Array Value := #[.int .i64 m.kind, .int .i64 m.view, .int .i64 m.frm, .int .i64 m.to, .int .i64 m.op, .int .i64 m.commit, .int .i64 m.normal, p]
def rcdNs (m : Rcd) : List Int := [m.kind, m.a, m.b]
def rcdB (m : Rcd) : List Value := (rcdNs m).flatMap numV ++ entsB m.log
def rcdA (m : Rcd) (p : Value) : Array Value := #[.int .i64 m.kind, .int .i64 m.a, .int .i64 m.b, p]

theorem f71_ok {b : Nat} {v : Value} {xs : List Value} {eb : Nat} {T : TypeId} {fr : Nat × Nat} {e : Msg} {p : Value} (hp : h eb = some (.cells (msgA e p) T fr)) (h1 : EntsR h p e.log) (hm : MemOk h w (codM b v xs)) (hs : Sub h w) (hn : xs.length + (msgB e).length ≤ 140737488351232) :
    Calls Try.prog 71 #[.pointer (some ⟨b, 0, none⟩), .pointer (some ⟨eb, 0, none⟩)] w (Wrote h w b v xs (msgB e)) := by
  have hnl : (msgB e).length = 42 + (entsB e.log).length := by rw [msgB, List.length_append, flat_len]; rfl
  rw [hnl] at hn
  refine Calls.enterM (codM b v xs) [.atom (.ptr 0 0), .atom (.raw (.pointer (some ⟨eb, 0, none⟩)))] Try.func71 (c := bodyOf Try.f71) (by kernel_rfl) Try.ntmps71 (by kernel_rfl) hm ⟨⟨rfl, Nat.zero_lt_one⟩, ⟨rfl, rfl⟩, trivial⟩ (by simp) hs ?_
  refine G.runE tm 100 ?_
  refine G.draw [] tm (by kernel_rfl) (by kernel_rfl) ?_
  refine GD.run (by kernel_rfl) 60 ?_
  refine GD.one 23 (by kernel_rfl) (GDop.callW 0 0 [1] (f := 118) (svs := [.atom (.ptr 0 0), .atom (.bsl 1 0 7 7)]) (d := some 27) (by kernel_rfl) (by kernel_rfl) (by kernel_rfl) (v := v) (n := xs.length) (xs := xs) (by kernel_rfl) (by kernel_rfl) (by kernel_rfl) (by kernel_rfl) (by kernel_rfl) rfl
    (zs := (msgNs e).flatMap numV) (r := .tuple #[]) (n' := xs.length + 42) (by rw [flat_len]; rfl) (fun β w tmps l hS hl hsub hmem => ?_) fun v1 => ?_)
  · obtain ⟨a1, a2, rfl, ⟨rfl, -⟩, ⟨rfl, -⟩⟩ := args2 hl
    have h3 := hS.ptrs (ro := [1]) (q := 1) (bi := none) (T := 171) (cs := [.raw (.pointer (some ⟨eb, 0, none⟩)), .raw (.pointer (some ⟨eb, 1, none⟩)), .raw (.pointer (some ⟨eb, 2, none⟩)), .raw (.pointer (some ⟨eb, 3, none⟩)), .raw (.pointer (some ⟨eb, 4, none⟩)), .raw (.pointer (some ⟨eb, 5, none⟩)), .raw (.pointer (some ⟨eb, 6, none⟩))]) (l := msgNs e) (by kernel_rfl) (by simp)
      ⟨⟨_, _, _, hp, rfl⟩, ⟨_, _, _, hp, rfl⟩, ⟨_, _, _, hp, rfl⟩, ⟨_, _, _, hp, rfl⟩, ⟨_, _, _, hp, rfl⟩, ⟨_, _, _, hp, rfl⟩, ⟨_, _, _, hp, rfl⟩, trivial⟩ (by simp [msgNs])
    exact f118_ok (v := v) (xs := xs) h3 hmem hsub (by simp only [msgNs, List.length_cons, List.length_nil]; omega)
  refine GD.run (by kernel_rfl) 50 ?_
  refine GD.fin (by kernel_rfl) ?_
  refine G.runE tm 100 ?_
  refine G.callW 0 0 [] (f := 119) (svs := [.atom (.ptr 0 0), .atom (.raw (.pointer (some ⟨eb, 7, none⟩))), .atom (.int .i64 54), .atom (.clo 120 true 0 0)]) (d := some 34) (by kernel_rfl) (by kernel_rfl) (by kernel_rfl) (v := v1) (n := xs.length + 42) (xs := xs ++ (msgNs e).flatMap numV) (by kernel_rfl) (by kernel_rfl) (by kernel_rfl) (by rw [List.length_append, flat_len]; rfl)
    (zs := entsB e.log) (r := .tuple #[]) (n' := xs.length + 42 + (entsB e.log).length) rfl (fun β w tmps l hS hl hsub hmem => ?_) fun v2 => ?_
  · obtain ⟨a1, a2, a3, a4, rfl, ⟨rfl, -⟩, ⟨rfl, -⟩, rfl, ⟨rfl, -⟩⟩ := args4 hl
    exact f119_ok (by decide) (hS.roLe [] _ _ hp) rfl (h1.mono (hS.roLe [])) hmem hsub (by rw [List.length_append, flat_len]; simp only [msgNs, List.length_cons, List.length_nil]; omega)
  refine G.runE tm 100 ?_
  exact G.retM (codM b v xs) Try.func71 Try.results71 (.tuple #[]) (by kernel_rfl) rfl ⟨[(b, codB v2 (xs.length + 42 + (entsB e.log).length))], [⟨5, 1, v2, xs.length + 42 + (entsB e.log).length, (xs ++ (msgNs e).flatMap numV) ++ entsB e.log⟩]⟩ (nb := 1) (no := 1) (by kernel_rfl) (by kernel_rfl) rfl fun w' hg =>
    ⟨v2, rfl, mk_wrote hg (by rw [List.length_append, hnl]; omega) (by simp only [msgB, List.append_assoc])⟩

theorem f112_ok {b : Nat} {v : Value} {xs : List Value} {eb : Nat} {T : TypeId} {fr : Nat × Nat} {e : Rcd} {p : Value} (hp : h eb = some (.cells (rcdA e p) T fr)) (h1 : EntsR h p e.log) (hm : MemOk h w (codM b v xs)) (hs : Sub h w) (hn : xs.length + (rcdB e).length ≤ 140737488351232) :
    Calls Try.prog 112 #[.pointer (some ⟨b, 0, none⟩), .pointer (some ⟨eb, 0, none⟩)] w (Wrote h w b v xs (rcdB e)) := by
  have hnl : (rcdB e).length = 18 + (entsB e.log).length := by rw [rcdB, List.length_append, flat_len]; rfl
  rw [hnl] at hn
  refine Calls.enterM (codM b v xs) [.atom (.ptr 0 0), .atom (.raw (.pointer (some ⟨eb, 0, none⟩)))] Try.func112 (c := bodyOf Try.f112) (by kernel_rfl) Try.ntmps112 (by kernel_rfl) hm ⟨⟨rfl, Nat.zero_lt_one⟩, ⟨rfl, rfl⟩, trivial⟩ (by simp) hs ?_
  refine G.runE tm 100 ?_
  refine G.draw [] tm (by kernel_rfl) (by kernel_rfl) ?_
  refine GD.run (by kernel_rfl) 60 ?_
  refine GD.one 11 (by kernel_rfl) (GDop.callW 0 0 [1] (f := 118) (svs := [.atom (.ptr 0 0), .atom (.bsl 1 0 3 3)]) (d := some 15) (by kernel_rfl) (by kernel_rfl) (by kernel_rfl) (v := v) (n := xs.length) (xs := xs) (by kernel_rfl) (by kernel_rfl) (by kernel_rfl) (by kernel_rfl) (by kernel_rfl) rfl
    (zs := (rcdNs e).flatMap numV) (r := .tuple #[]) (n' := xs.length + 18) (by rw [flat_len]; rfl) (fun β w tmps l hS hl hsub hmem => ?_) fun v1 => ?_)
  · obtain ⟨a1, a2, rfl, ⟨rfl, -⟩, ⟨rfl, -⟩⟩ := args2 hl
    have h3 := hS.ptrs (ro := [1]) (q := 1) (bi := none) (T := 171) (cs := [.raw (.pointer (some ⟨eb, 0, none⟩)), .raw (.pointer (some ⟨eb, 1, none⟩)), .raw (.pointer (some ⟨eb, 2, none⟩))]) (l := rcdNs e) (by kernel_rfl) (by simp)
      ⟨⟨_, _, _, hp, rfl⟩, ⟨_, _, _, hp, rfl⟩, ⟨_, _, _, hp, rfl⟩, trivial⟩ (by simp [rcdNs])
    exact f118_ok (v := v) (xs := xs) h3 hmem hsub (by simp only [rcdNs, List.length_cons, List.length_nil]; omega)
  refine GD.run (by kernel_rfl) 50 ?_
  refine GD.fin (by kernel_rfl) ?_
  refine G.runE tm 100 ?_
  refine G.callW 0 0 [] (f := 119) (svs := [.atom (.ptr 0 0), .atom (.raw (.pointer (some ⟨eb, 3, none⟩))), .atom (.int .i64 54), .atom (.clo 120 true 0 0)]) (d := some 22) (by kernel_rfl) (by kernel_rfl) (by kernel_rfl) (v := v1) (n := xs.length + 18) (xs := xs ++ (rcdNs e).flatMap numV) (by kernel_rfl) (by kernel_rfl) (by kernel_rfl) (by rw [List.length_append, flat_len]; rfl)
    (zs := entsB e.log) (r := .tuple #[]) (n' := xs.length + 18 + (entsB e.log).length) rfl (fun β w tmps l hS hl hsub hmem => ?_) fun v2 => ?_
  · obtain ⟨a1, a2, a3, a4, rfl, ⟨rfl, -⟩, ⟨rfl, -⟩, rfl, ⟨rfl, -⟩⟩ := args4 hl
    exact f119_ok (by decide) (hS.roLe [] _ _ hp) rfl (h1.mono (hS.roLe [])) hmem hsub (by rw [List.length_append, flat_len]; simp only [rcdNs, List.length_cons, List.length_nil]; omega)
  refine G.runE tm 100 ?_
  exact G.retM (codM b v xs) Try.func112 Try.results112 (.tuple #[]) (by kernel_rfl) rfl ⟨[(b, codB v2 (xs.length + 18 + (entsB e.log).length))], [⟨5, 1, v2, xs.length + 18 + (entsB e.log).length, (xs ++ (rcdNs e).flatMap numV) ++ entsB e.log⟩]⟩ (nb := 1) (no := 1) (by kernel_rfl) (by kernel_rfl) rfl fun w' hg =>
    ⟨v2, rfl, mk_wrote hg (by rw [List.length_append, hnl]; omega) (by simp only [rcdB, List.append_assoc])⟩

/-- What a writer hands out at its end. -/
def writtenV (v : Value) (n : Nat) (ok : Bool) : Value := if ok = true then (if n > 65536 then .tuple #[.slice none 0 0, .int .i64 12] else .tuple #[v, .int .i64 0]) else .tuple #[.slice none 0 0, .int .i64 10]

theorem f72_ok {b : Nat} {v : Value} {xs : List Value} {ok : Bool} (hm : MemOk h w (codM b v xs)) (hs : Sub h w) :
    Calls Try.prog 72 #[.pointer (some ⟨b, 0, none⟩), .bool ok] w fun e w' => e = .returned (writtenV v xs.length ok) ∧ Mend h w (codM b v xs) h w' (codM b v xs) := by
  refine Calls.enterM (codM b v xs) [.atom (.ptr 0 0), .atom (.bool ok)] Try.func72 (c := bodyOf Try.f72) (by kernel_rfl) Try.ntmps72 (by kernel_rfl) hm ⟨⟨rfl, Nat.zero_lt_one⟩, rfl, trivial⟩ (by simp) hs ?_
  refine G.runE tm 100 ?_
  refine G.cond (!ok) (by kernel_rfl) (fun hc => ?_) (fun hc => ?_)
  · refine G.runE tm 100 ?_
    have : ok = false := by simpa using hc
    subst this
    exact G.retM (codM b v xs) Try.func72 Try.results72 (.tuple #[.slice none 0 0, .int .i64 10]) (by kernel_rfl) rfl (codM b v xs) (nb := 1) (no := 1) (by kernel_rfl) (by kernel_rfl) rfl fun w' hg => ⟨by simp [writtenV], hg⟩
  have : ok = true := by simpa using hc
  subst this
  refine G.runE tm 100 ?_
  refine G.cond (decide ((xs.length : Int) > 65536)) (by kernel_rfl) (fun hc => ?_) (fun hc => ?_)
  · refine G.runE tm 100 ?_
    have hc : xs.length > 65536 := by simp at hc; omega
    exact G.retM (codM b v xs) Try.func72 Try.results72 (.tuple #[.slice none 0 0, .int .i64 12]) (by kernel_rfl) rfl (codM b v xs) (nb := 1) (no := 1) (by kernel_rfl) (by kernel_rfl) rfl fun w' hg => ⟨by simp [writtenV, hc], hg⟩
  · refine G.runE tm 100 ?_
    have hc : ¬ xs.length > 65536 := by simp at hc; omega
    exact G.retM (codM b v xs) Try.func72 Try.results72 (.tuple #[v, .int .i64 0]) (by kernel_rfl) rfl (codM b v xs) (nb := 1) (no := 1) (by kernel_rfl) (by kernel_rfl) rfl fun w' hg => ⟨by simp only [writtenV, if_true, if_neg hc], hg⟩
end w
end Go.Proofs.Ytkjahaoobdbffaa
