/- The base of this seat's proofs, eighteenth part: an operation known by its meaning that comes up now, in a region of open order. -/
import Derived.Test.YtkjahaoobdbffaaB17
import Derived.Test.YtkjahaoobdbffaaM2
namespace Go.Proofs.Ytkjahaoobdbffaa
open Go Go.RowKit

def semAtD (ops : Array Oper) (d : DCfg) (i : Nat) : Option SemView := match ops[i]? with
  | some o => semOf d.s ops o
  | none => none

theorem GDop.sem {C : Ctx} {h0 h : GH} {ops : Array Oper} {k : List Item} {ks : List Nat} {d : DCfg} {i : Nat} {m : Sem Next} {dst : Option Nat} {g : Option (Nat × Bool)} (hv : semAtD ops d i = some ⟨m, dst, g⟩) (hok : gOk C.n dst g = true) (u : Value) (sv : SV1) (hsv : ∀ N β, SV1Ok N β sv u)
    (hrun : guardSays d.s g (∀ w, Sub h w → m.run C.P w = .ok (.value u) w)) (hk : GD C h0 h ops k ks (afterN ops d i d.s (gdOf g sv))) : GDop C h0 h ops k ks d i := by
  intro β w tmps L hS hL hlive hle
  obtain ⟨fuel, listed, s⟩ := d
  unfold semAtD at hv
  simp only at hv hS hlive hrun
  split at hv
  · rename_i o hi
    obtain ⟨hd, hdo, hcase⟩ := semOf_ok (P := C.P) hS hv hok u sv hsv (Sub h) hrun
    simp only [afterN, nextD, hi, Option.bind_some] at hk
    rw [hd] at hdo
    have hst : Stays L h0 w := by rw [hL]; exact Stays.of_sim hS hle ks
    have hl : ∀ x ∈ ks, ∃ b, bx x (putS s o.dst (gdOf g sv)).boxes = some b := fun x hx => by obtain ⟨b, hb⟩ := hlive x hx; exact ⟨b, by simp only [putS_boxes]; exact hb⟩
    rcases hcase with ⟨⟨hwt, hr⟩, hu⟩ | ⟨hwt, hu⟩
    · refine wpOp_value hi hwt (hr w hS.sub) ⟨hst, ?_⟩
      rw [act_put]
      exact hk β w _ L (hS.putD hdo hu) hL hl hle
    · refine wpOp_unwanted hi hwt ⟨hst, ?_⟩
      rw [act_put]
      exact hk β w _ L (hS.putD hdo hu) hL hl hle
  · simp at hv

section GD
variable {α : Type} {C : Ctx} {h0 h : GH} {ops : Array Oper} {k : List Item} {ks : List Nat} {dd : DCfg} {sz : Nat} {R : List Value → α → Prop} {v : Value} {l : List α} {T E : TypeId} {d1 : Option Nat} {g : Option (Nat × Bool)}

theorem GDop.idx {j : Nat} (hs : SlR h sz R v l) (hu : C.P.underlying T = some (.slice E)) (hz : sizeP C.P E = some sz) {i : Nat} (hi : i < l.length)
    (h1 : semAtD ops dd j = some ⟨valS (Instr.indexAt T v (.int .i64 i)), d1, g⟩) (hok : gOk C.n d1 g = true) (hk : GD C h0 h ops k ks (afterN ops dd j dd.s (gdOf g (addrS v sz i)))) : GDop C h0 h ops k ks dd j :=
  GDop.sem h1 hok _ _ (addrS_ok v sz i) (says_of fun w _ => run_valS (hs.index hu hz hi w)) hk

theorem GDop.elEnt {l : List Ent} {j : Nat} (hs : EntsR h v l) (hz : sizeP C.P E = some 9) (hd : ∃ d, C.P.underlying E = some d ∧ isAggD d = true) {i : Nat} {e : Ent} (hx : l[i]? = some e)
    (h1 : semAtD ops dd j = some ⟨valS (Instr.loadAt E (.pointer (some (elemAddr v 9 i)))), d1, g⟩) (hok : gOk C.n d1 g = true)
    (hk : ∀ p d, SlR h 5 RulR p e.put → SlR h 1 IntR d e.drop → GD C h0 h ops k ks (afterN ops dd j dd.s (gdOf g (.agg (entC e p d))))) : GDop C h0 h ops k ks dd j := by
  obtain ⟨d, hd, hag⟩ := hd
  obtain ⟨arr, hR, hrun⟩ := SlR.loadA hs hz hd hag hx
  obtain ⟨p, d, rfl, h2, h3⟩ := EntR.arr hR
  exact GDop.sem h1 hok _ _ (entC_ok h2 h3) (says_of fun w hw => run_valS (hrun w hw)) (hk p d h2 h3)
end GD
end Go.Proofs.Ytkjahaoobdbffaa
