/- The document's example of layer 11 stands. -/
import Derived.Test.YtkjahaoobdbffaaK19
import Derived.Test.YtkjahaoobdbffaaK3
import Derived.Test.YtkjahaoobdbffaaB17
namespace Go.Proofs.Ytkjahaoobdbffaa
open Go Go.RowKit
attribute [local irreducible] G GD GDop

theorem run_eql_str (o1 o2 : Operand) (a b : ByteArray) (w : World) : (do eqGuard .eql 9 o1 o2 (.string a) (.string b); binOp .eql 9 (.string a) (.string b)).run Try.prog w = .ok (.bool (decide (a = b))) w := by
  have h1 : (eqGuard .eql 9 o1 o2 (.string a) (.string b)).run Try.prog w = .ok () w := by unfold eqGuard; simp
  simp only [Sem.run_bind, h1, Result.andThen_ok, binOp, Op.stringOp, bytes_beq, Sem.run_pure]

def ancB : ByteArray := ⟨#[0, 0, 0, 0, 0, 2, 0, 0, 0, 0, 0, 6, 0, 0, 0, 0, 0, 4, 0, 0, 0, 0, 0, 1]⟩
def ancR : Rcd := ⟨1, 5, 3, []⟩

theorem ancB_cells : rcdB ancR = Lib.strCells ancB := by kernel_rfl

section w
variable {h : GH} {w : World}

theorem f13_ok (hs : Sub h w) : Calls Try.prog 13 #[] w fun e w' => e = .returned (.bool true) ∧ Below w.heap.size w w' := by
  have hnil : EntsR h nilS [] := ⟨none, 0, rfl, Nat.le_refl _, by decide, .inl rfl⟩
  refine Calls.enter [] Try.func13 (c := bodyOf Try.f13) (by kernel_rfl) Try.ntmps13 trivial (by simp) hs ?_
  refine G.runE tm 100 ?_
  refine G.callP (f := 57) (svs := [.agg (rcdC ancR nilS)]) (d := some 7) (by kernel_rfl) [rcdV ancR nilS] (by kernel_rfl) (by kernel_rfl) (by kernel_rfl)
    (fun h' v => ∃ x, v = .tuple #[x, .int .i64 0] ∧ BytesR h' x (rcdB ancR)) (fun w hw => (f57_ok hnil hw (by rw [ancB_cells]; decide)).mono ?_) ?_
  · rintro e w' ⟨v, err, h', rfl, hg, h1, h2, -⟩
    have he : err = 0 := h2 rfl (by rw [ancB_cells]; decide)
    subst he
    exact ⟨_, h', rfl, hg, v, rfl, (h1 rfl).2.2⟩
  rintro h1 v ⟨x, rfl, hx⟩ -
  refine ⟨.tup [.atom (.sl x 24), .atom (.int .i64 0)], fun N β tmps => ⟨_, rfl, by have := hx.sv N β; rwa [show (rcdB ancR).length = 24 by rw [ancB_cells]; rfl] at this, rfl, trivial⟩, ?_⟩
  refine G.runE tm 100 ?_
  refine G.callP (f := 58) (svs := [.atom (.sl x 24)]) (d := some 12) (by kernel_rfl) [x] (by kernel_rfl) (by kernel_rfl) (by kernel_rfl)
    (fun h' v => ∃ p, v = .tuple #[rcdV ancR p, .int .i64 0] ∧ EntsR h' p []) (fun w hw => (f58_ok hx rfl (by rw [ancB_cells]; decide) hw).mono ?_) ?_
  · rintro e w' ⟨p, h', rfl, hg, hp⟩
    exact ⟨_, h', rfl, hg, p, rfl, hp⟩
  rintro h2 v ⟨p, rfl, hp⟩ hle
  refine ⟨.tup [.agg (rcdC ancR p), .atom (.int .i64 0)], fun N β tmps => ⟨_, rfl, rcdC_ok hp N β, rfl, trivial⟩, ?_⟩
  refine G.runE tm 100 ?_
  have hx2 : BytesR h2 x (rcdB ancR) := SlR.mono hx hle fun _ _ h => h
  have hstr : ∀ w, Sub h2 w → (convert 40 9 x).run Try.prog w = .ok (.string ancB) w := fun w hw => by
    have := BytesR.str (ns := ancB.data.toList.map fun b => (b.toNat : Int)) (v := x) (by rw [List.map_map]; rw [ancB_cells] at hx2; exact hx2) hw
    rw [bstr_cells] at this; exact this
  refine G.sem (m := valS (convert 40 9 x)) (d := some 19) (g := some (17, true)) (by kernel_rfl) (by kernel_rfl) (.string ancB) (.atom (.str ancB)) (fun _ _ => rfl) (says_of fun w hw => run_valS (hstr w hw)) ?_
  refine G.sem (m := valS (do eqGuard .eql 9 (.tmp 19) (.const (.string ancB)) (.string ancB) (.string ancB); binOp .eql 9 (.string ancB) (.string ancB))) (d := some 20) (g := some (17, true)) (by kernel_rfl) (by kernel_rfl) (.bool true) (.atom (.bool true)) (fun _ _ => rfl) (says_of fun w _ => run_valS (by rw [run_eql_str]; rfl)) ?_
  refine G.runE tm 100 ?_
  exact G.ret Try.func13 Try.results13 (.bool true) (by kernel_rfl) fun w' hf _ => ⟨rfl, hf.below⟩
end w
end Go.Proofs.Ytkjahaoobdbffaa
