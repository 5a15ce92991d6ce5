/- Encode and EncodeRecord. -/
import Derived.Test.YtkjahaoobdbffaaK4
import Derived.Test.YtkjahaoobdbffaaK10
namespace Go.Proofs.Ytkjahaoobdbffaa
open Go Go.RowKit
attribute [local irreducible] G GD GDop

/-- A slice of known cells. -/
def CellR (cs : List Value) (x : Value) : Prop := cs = [x]
def BytesR (h : GH) (v : Value) (xs : List Value) : Prop := SlR h 1 CellR v xs

theorem listR_cells (xs : List Value) : ListR 1 CellR xs xs := by
  refine ⟨by simp, fun i x hx => ?_⟩
  obtain ⟨hi, rfl⟩ := List.getElem?_eq_some_iff.1 hx
  rw [Nat.mul_one, List.drop_eq_getElem_cons hi]
  rfl

/-- What an encoder answers: the bytes, or an error. -/
def Encoded (h : GH) (w : World) (ok : Bool) (xs : List Value) (e : Ending) (w' : World) : Prop :=
  ∃ v err h', e = .returned (.tuple #[v, .int .i64 err]) ∧ Grow h w h' w' ∧ (err = 0 → ok = true ∧ xs.length ≤ 65536 ∧ BytesR h' v xs) ∧ (ok = true → xs.length ≤ 65536 → err = 0) ∧ (∃ a n c, v = .slice a n c)

section w
variable {h : GH} {w : World}

theorem f20_ok {p : Value} {m : Msg} (hp : EntsR h p m.log) (hs : Sub h w) (hn : (msgB m).length ≤ 140737488351232) :
    Calls Try.prog 20 #[msgV m p] w (Encoded h w (msgRight m) (msgB m)) := by
  refine Calls.enter [.agg (msgC m p)] Try.func20 (c := bodyOf Try.f20) (by kernel_rfl) Try.ntmps20 ⟨msgC_ok hp _ _, trivial⟩ (by simp) hs ?_
  refine G.runE tm 100 ?_
  refine G.ownNil 0 5 1 ?_
  refine G.callV (f := 40) (svs := [.agg (msgC m p)]) (d := some 9) (by kernel_rfl) [msgV m p] (.bool (msgRight m)) (by kernel_rfl) (by kernel_rfl) (by kernel_rfl) (fun w hs => f40_ok hp hs) ?_
  refine G.runE tm 100 ?_
  refine G.cond (msgRight m) (by kernel_rfl) (fun hc => ?_) (fun hc => ?_)
  · refine G.runE tm 100 ?_
    refine G.callW 1 0 [0] (f := 71) (svs := [.atom (.ptr 1 0), .atom (.ptr 0 0)]) (d := some 12) (by kernel_rfl) (by kernel_rfl) (by kernel_rfl) (v := .slice none 0 0) (n := 0) (xs := []) (by kernel_rfl) (by kernel_rfl) (by kernel_rfl) rfl
      (zs := msgB m) (r := .tuple #[]) (n' := (msgB m).length) (by rw [Nat.zero_add]) (fun β w tmps l hS hl hsub hmem => ?_) fun v1 => ?_
    · obtain ⟨a1, a2, rfl, ⟨rfl, -⟩, ⟨rfl, -⟩⟩ := args2 hl
      exact f71_ok (hS.roCells (ro := [0]) (k := 0) (bi := none) (T := 45) (cs := msgC m p) (vs := (msgA m p).toList) (by kernel_rfl) (by simp) rfl) (hp.mono (hS.roLe [0])) hmem hsub (by simpa using hn)
    refine G.runE tm 100 ?_
    refine G.ownForm 0 (e := 5) (sz := 1) (n := (msgB m).length) (v := v1) (xs := msgB m) (by kernel_rfl) fun hform => ?_
    refine G.callM [1] [0] [] (f := 72) (svs := [.atom (.ptr 1 0), .atom (.bool (msgRight m))]) (d := some 15) (by kernel_rfl) (by kernel_rfl) (by kernel_rfl) (bs := [codB v1 (msgB m).length]) (os := [⟨5, 1, v1, (msgB m).length, msgB m⟩]) (by kernel_rfl) (by kernel_rfl) (by kernel_rfl)
      (fun h' r bs os => h' = h ∧ r = writtenV v1 (msgB m).length (msgRight m) ∧ bs = [codB v1 (msgB m).length] ∧ os = [⟨5, 1, v1, (msgB m).length, msgB m⟩]) (fun β w tmps l hS hl hsub hmem => ?_) ?_
    · obtain ⟨a1, a2, rfl, ⟨rfl, -⟩, rfl⟩ := args2 hl
      refine (f72_ok (b := β 1) (v := v1) (xs := msgB m) hmem hsub).mono ?_
      rintro e w' ⟨rfl, hmend⟩
      exact ⟨_, [codB v1 (msgB m).length], [⟨5, 1, v1, (msgB m).length, msgB m⟩], _, rfl, rfl, rfl, hmend, hS.hideRo rfl, rfl, rfl, rfl⟩
    rintro h' r bs os ⟨rfl, rfl, rfl, rfl⟩ -
    rw [hc]
    by_cases hbig : (msgB m).length > 65536
    · rw [show writtenV v1 (msgB m).length true = .tuple #[.slice none 0 0, .int .i64 12] by simp [writtenV, hbig]]
      refine ⟨.tup [.atom (.sl (.slice none 0 0) 0), .atom (.int .i64 12)], fun N β tmps => ⟨_, rfl, ⟨rfl, none, 0, rfl⟩, rfl, trivial⟩, ?_⟩
      refine G.runE tm 100 ?_
      exact G.retG Try.func20 Try.results20 (.tuple #[.slice none 0 0, .int .i64 12]) (by kernel_rfl) rfl fun w' hg => ⟨_, _, _, rfl, hg, fun e => by simp at e, fun _ h2 => by omega, _, _, _, rfl⟩
    · have hlt : (msgB m).length ≤ 65536 := by omega
      rw [show writtenV v1 (msgB m).length true = .tuple #[v1, .int .i64 0] by simp [writtenV, hbig]]
      refine ⟨.tup [.atom (.sl v1 (msgB m).length), .atom (.int .i64 0)], fun N β tmps => ⟨_, rfl, ⟨rfl, hform⟩, rfl, trivial⟩, ?_⟩
      refine G.runE tm 100 ?_
      refine G.freeze 0 (e := 5) (sz := 1) (v := v1) (m := (msgB m).length) (xs := msgB m) (by kernel_rfl) fun h' hle hf _ => ?_
      obtain ⟨a, cc, hv1⟩ := hform
      exact G.retG Try.func20 Try.results20 (.tuple #[v1, .int .i64 0]) (by kernel_rfl) rfl fun w' hg => ⟨v1, 0, h', rfl, hg, fun _ => ⟨rfl, hlt, SlR.of_freeze hf (listR_cells _) rfl hn⟩, fun _ _ => rfl, a, _, cc, hv1⟩
  · refine G.runE tm 100 ?_
    refine G.callM [1] [0] [] (f := 72) (svs := [.atom (.ptr 1 0), .atom (.bool (msgRight m))]) (d := some 15) (by kernel_rfl) (by kernel_rfl) (by kernel_rfl) (bs := [codB (.slice none 0 0) 0]) (os := [⟨5, 1, .slice none 0 0, 0, []⟩]) (by kernel_rfl) (by kernel_rfl) (by kernel_rfl)
      (fun h' r bs os => h' = h ∧ r = writtenV (.slice none 0 0) 0 (msgRight m) ∧ bs = [codB (.slice none 0 0) 0] ∧ os = [⟨5, 1, .slice none 0 0, 0, []⟩]) (fun β w tmps l hS hl hsub hmem => ?_) ?_
    · obtain ⟨a1, a2, rfl, ⟨rfl, -⟩, rfl⟩ := args2 hl
      refine (f72_ok (b := β 1) (v := .slice none 0 0) (xs := []) hmem hsub).mono ?_
      rintro e w' ⟨rfl, hmend⟩
      exact ⟨_, [codB (.slice none 0 0) 0], [⟨5, 1, .slice none 0 0, 0, []⟩], _, rfl, rfl, rfl, hmend, hS.hideRo rfl, rfl, rfl, rfl⟩
    rintro h' r bs os ⟨rfl, rfl, rfl, rfl⟩ -
    rw [hc]
    refine ⟨.tup [.atom (.sl (.slice none 0 0) 0), .atom (.int .i64 10)], fun N β tmps => ⟨_, rfl, ⟨rfl, none, 0, rfl⟩, rfl, trivial⟩, ?_⟩
    refine G.runE tm 100 ?_
    exact G.retG Try.func20 Try.results20 (.tuple #[.slice none 0 0, .int .i64 10]) (by kernel_rfl) rfl fun w' hg => ⟨_, _, _, rfl, hg, fun e => by simp at e, fun h2 => by simp at h2, _, _, _, rfl⟩
theorem f57_ok {p : Value} {m : Rcd} (hp : EntsR h p m.log) (hs : Sub h w) (hn : (rcdB m).length ≤ 140737488351232) :
    Calls Try.prog 57 #[rcdV m p] w (Encoded h w (rcdRight m) (rcdB m)) := by
  refine Calls.enter [.agg (rcdC m p)] Try.func57 (c := bodyOf Try.f57) (by kernel_rfl) Try.ntmps57 ⟨rcdC_ok hp _ _, trivial⟩ (by simp) hs ?_
  refine G.runE tm 100 ?_
  refine G.ownNil 0 5 1 ?_
  refine G.callV (f := 111) (svs := [.agg (rcdC m p)]) (d := some 9) (by kernel_rfl) [rcdV m p] (.bool (rcdRight m)) (by kernel_rfl) (by kernel_rfl) (by kernel_rfl) (fun w hs => f111_ok hp hs) ?_
  refine G.runE tm 100 ?_
  refine G.cond (rcdRight m) (by kernel_rfl) (fun hc => ?_) (fun hc => ?_)
  · refine G.runE tm 100 ?_
    refine G.callW 1 0 [0] (f := 112) (svs := [.atom (.ptr 1 0), .atom (.ptr 0 0)]) (d := some 12) (by kernel_rfl) (by kernel_rfl) (by kernel_rfl) (v := .slice none 0 0) (n := 0) (xs := []) (by kernel_rfl) (by kernel_rfl) (by kernel_rfl) rfl
      (zs := rcdB m) (r := .tuple #[]) (n' := (rcdB m).length) (by rw [Nat.zero_add]) (fun β w tmps l hS hl hsub hmem => ?_) fun v1 => ?_
    · obtain ⟨a1, a2, rfl, ⟨rfl, -⟩, ⟨rfl, -⟩⟩ := args2 hl
      exact f112_ok (hS.roCells (ro := [0]) (k := 0) (bi := none) (T := 110) (cs := rcdC m p) (vs := (rcdA m p).toList) (by kernel_rfl) (by simp) rfl) (hp.mono (hS.roLe [0])) hmem hsub (by simpa using hn)
    refine G.runE tm 100 ?_
    refine G.ownForm 0 (e := 5) (sz := 1) (n := (rcdB m).length) (v := v1) (xs := rcdB m) (by kernel_rfl) fun hform => ?_
    refine G.callM [1] [0] [] (f := 72) (svs := [.atom (.ptr 1 0), .atom (.bool (rcdRight m))]) (d := some 15) (by kernel_rfl) (by kernel_rfl) (by kernel_rfl) (bs := [codB v1 (rcdB m).length]) (os := [⟨5, 1, v1, (rcdB m).length, rcdB m⟩]) (by kernel_rfl) (by kernel_rfl) (by kernel_rfl)
      (fun h' r bs os => h' = h ∧ r = writtenV v1 (rcdB m).length (rcdRight m) ∧ bs = [codB v1 (rcdB m).length] ∧ os = [⟨5, 1, v1, (rcdB m).length, rcdB m⟩]) (fun β w tmps l hS hl hsub hmem => ?_) ?_
    · obtain ⟨a1, a2, rfl, ⟨rfl, -⟩, rfl⟩ := args2 hl
      refine (f72_ok (b := β 1) (v := v1) (xs := rcdB m) hmem hsub).mono ?_
      rintro e w' ⟨rfl, hmend⟩
      exact ⟨_, [codB v1 (rcdB m).length], [⟨5, 1, v1, (rcdB m).length, rcdB m⟩], _, rfl, rfl, rfl, hmend, hS.hideRo rfl, rfl, rfl, rfl⟩
    rintro h' r bs os ⟨rfl, rfl, rfl, rfl⟩ -
    rw [hc]
    by_cases hbig : (rcdB m).length > 65536
    · rw [show writtenV v1 (rcdB m).length true = .tuple #[.slice none 0 0, .int .i64 12] by simp [writtenV, hbig]]
      refine ⟨.tup [.atom (.sl (.slice none 0 0) 0), .atom (.int .i64 12)], fun N β tmps => ⟨_, rfl, ⟨rfl, none, 0, rfl⟩, rfl, trivial⟩, ?_⟩
      refine G.runE tm 100 ?_
      exact G.retG Try.func57 Try.results57 (.tuple #[.slice none 0 0, .int .i64 12]) (by kernel_rfl) rfl fun w' hg => ⟨_, _, _, rfl, hg, fun e => by simp at e, fun _ h2 => by omega, _, _, _, rfl⟩
    · have hlt : (rcdB m).length ≤ 65536 := by omega
      rw [show writtenV v1 (rcdB m).length true = .tuple #[v1, .int .i64 0] by simp [writtenV, hbig]]
      refine ⟨.tup [.atom (.sl v1 (rcdB m).length), .atom (.int .i64 0)], fun N β tmps => ⟨_, rfl, ⟨rfl, hform⟩, rfl, trivial⟩, ?_⟩
      refine G.runE tm 100 ?_
      refine G.freeze 0 (e := 5) (sz := 1) (v := v1) (m := (rcdB m).length) (xs := rcdB m) (by kernel_rfl) fun h' hle hf _ => ?_
      obtain ⟨a, cc, hv1⟩ := hform
      exact G.retG Try.func57 Try.results57 (.tuple #[v1, .int .i64 0]) (by kernel_rfl) rfl fun w' hg => ⟨v1, 0, h', rfl, hg, fun _ => ⟨rfl, hlt, SlR.of_freeze hf (listR_cells _) rfl hn⟩, fun _ _ => rfl, a, _, cc, hv1⟩
  · refine G.runE tm 100 ?_
    refine G.callM [1] [0] [] (f := 72) (svs := [.atom (.ptr 1 0), .atom (.bool (rcdRight m))]) (d := some 15) (by kernel_rfl) (by kernel_rfl) (by kernel_rfl) (bs := [codB (.slice none 0 0) 0]) (os := [⟨5, 1, .slice none 0 0, 0, []⟩]) (by kernel_rfl) (by kernel_rfl) (by kernel_rfl)
      (fun h' r bs os => h' = h ∧ r = writtenV (.slice none 0 0) 0 (rcdRight m) ∧ bs = [codB (.slice none 0 0) 0] ∧ os = [⟨5, 1, .slice none 0 0, 0, []⟩]) (fun β w tmps l hS hl hsub hmem => ?_) ?_
    · obtain ⟨a1, a2, rfl, ⟨rfl, -⟩, rfl⟩ := args2 hl
      refine (f72_ok (b := β 1) (v := .slice none 0 0) (xs := []) hmem hsub).mono ?_
      rintro e w' ⟨rfl, hmend⟩
      exact ⟨_, [codB (.slice none 0 0) 0], [⟨5, 1, .slice none 0 0, 0, []⟩], _, rfl, rfl, rfl, hmend, hS.hideRo rfl, rfl, rfl, rfl⟩
    rintro h' r bs os ⟨rfl, rfl, rfl, rfl⟩ -
    rw [hc]
    refine ⟨.tup [.atom (.sl (.slice none 0 0) 0), .atom (.int .i64 10)], fun N β tmps => ⟨_, rfl, ⟨rfl, none, 0, rfl⟩, rfl, trivial⟩, ?_⟩
    refine G.runE tm 100 ?_
    exact G.retG Try.func57 Try.results57 (.tuple #[.slice none 0 0, .int .i64 10]) (by kernel_rfl) rfl fun w' hg => ⟨_, _, _, rfl, hg, fun e => by simp at e, fun h2 => by simp at h2, _, _, _, rfl⟩
end w
end Go.Proofs.Ytkjahaoobdbffaa
