/- The base of this seat's proofs, seventeenth part: a block that nobody writes any more is told apart. -/
import Derived.Test.YtkjahaoobdbffaaB16
namespace Go.Proofs.Ytkjahaoobdbffaa
open Go Go.RowKit

def dropBox (k : Nat) : List (Nat × Box) → List (Nat × Box)
  | [] => []
  | (x, o) :: l => if Nat.beq x k then dropBox k l else (x, o) :: dropBox k l

theorem bx_drop {k l : Nat} {o : Box} : ∀ {os : List (Nat × Box)}, bx l (dropBox k os) = some o → bx l os = some o ∧ l ≠ k := by
  intro os
  induction os with
  | nil => intro h; simp [dropBox, bx] at h
  | cons p os ih =>
    obtain ⟨x, q⟩ := p
    intro h
    simp only [dropBox] at h
    by_cases hx : Nat.beq x k = true
    · rw [if_pos hx] at h
      have := ih h
      rw [bx_cons, if_neg (fun e => this.2 (by rw [← e]; exact Nat.eq_of_beq_eq_true hx))]
      exact this
    · rw [if_neg hx, bx_cons] at h
      rw [bx_cons]
      split
      · rename_i e
        rw [if_pos e] at h
        exact ⟨h, fun e' => hx (nbeq_iff.2 (e.trans e'))⟩
      · rename_i e
        rw [if_neg e] at h
        exact ih h

theorem bx_drop_of {k l : Nat} {o : Box} (hne : l ≠ k) : ∀ {os : List (Nat × Box)}, bx l os = some o → bx l (dropBox k os) = some o := by
  intro os
  induction os with
  | nil => intro h; simp [bx] at h
  | cons p os ih =>
    obtain ⟨x, q⟩ := p
    intro h
    rw [bx_cons] at h
    simp only [dropBox]
    by_cases hx : Nat.beq x k = true
    · rw [if_pos hx]
      have := Nat.eq_of_beq_eq_true hx
      rw [if_neg (fun e => hne (by rw [← e, this]))] at h
      exact ih h
    · rw [if_neg hx, bx_cons]
      split
      · rename_i e; rw [if_pos e] at h; exact h
      · rename_i e; rw [if_neg e] at h; exact ih h

/-- The same ghost memory with one block more. -/
def addG (h : GH) (b : Nat) (o : Obj) : GH := fun x => if x = b then some o else h x

theorem Sim.freezeBox {hE : GH} {w0 : World} {inc : List Nat} {n : Nat} {s : S} {h : GH} {β : Nat → Nat} {w : World} {tmps : Array Value} (hS : Sim hE w0 inc n s h β w tmps) {k : Nat} {bi : Option Nat} {T : TypeId} {cs : List Cell} {vs : List Value} (hb : bx k s.boxes = some ⟨bi, .lit T cs⟩) (hv : cellVals cs = some vs) :
    Sim hE w0 inc n { s with boxes := dropBox k s.boxes } (addG h (β k) (.cells vs.toArray T (0, 0))) β w tmps := by
  have hcell : w.heap[β k]? = some (.cells vs.toArray T (0, 0)) := by
    obtain ⟨arr, h1, h2⟩ := hS.box k _ hb
    rw [h1, ← cellVals_ok hv h2]
  have hno := hS.gno k _ hb
  have hfr := hS.fresh k _ hb
  refine ⟨hS.size, hS.slots, fun j x hj => hS.box j x (bx_drop hj).1, fun j l x y hj hl => hS.inj j l x y (bx_drop hj).1 (bx_drop hl).1, fun j x hj => hS.keys j x (bx_drop hj).1, fun j x hj => hS.fresh j x (bx_drop hj).1, fun b o hb' => ?_, fun j x hj => ?_, hS.frame, fun b o hb' => ?_, fun b hlt hn => ?_, hS.own, fun l o b ho hb' => ?_, hS.ownI⟩
  · unfold addG at hb'
    split at hb'
    · rename_i e; subst e; simp only [Option.some.injEq] at hb'; subst hb'; exact hcell
    · exact hS.ghost b o hb'
  · unfold addG
    rw [if_neg (hS.inj j k x _ (bx_drop hj).1 hb (bx_drop hj).2)]
    exact hS.gno j x (bx_drop hj).1
  · unfold addG
    have h1 := hS.gle b o hb'
    rw [if_neg (fun e => by rw [e, hno] at h1; cases h1)]
    exact h1
  · unfold addG
    have hne : b ≠ β k := by
      rintro rfl
      cases bi with
      | none => simp only at hfr; omega
      | some m => simp only at hfr; rw [hfr.1] at hn; exact hn hfr.2
    rw [if_neg hne]
    exact hS.gold b hlt hn
  · obtain ⟨h1, h2, h3⟩ := hS.ownB l o b ho hb'
    refine ⟨?_, fun j x hj => h2 j x (bx_drop hj).1, h3⟩
    unfold addG
    rw [if_neg (fun e => h2 k _ hb e.symm)]
    exact h1

theorem GLe.addG {hE : GH} {w0 : World} {inc : List Nat} {n : Nat} {s : S} {h : GH} {β : Nat → Nat} {w : World} {tmps : Array Value} (hS : Sim hE w0 inc n s h β w tmps) {k : Nat} {b : Box} (hb : bx k s.boxes = some b) (o : Obj) : GLe h (addG h (β k) o) := by
  intro x y hx
  unfold Ytkjahaoobdbffaa.addG
  rw [if_neg (fun e => by rw [e, hS.gno k b hb] at hx; cases hx)]
  exact hx

/-- A slot that holds the address of a known block, or a slice of it, is told by a value. -/
theorem Sim.bslVal {hE : GH} {w0 : World} {inc : List Nat} {n : Nat} {s : S} {h : GH} {β : Nat → Nat} {w : World} {tmps : Array Value} (hS : Sim hE w0 inc n s h β w tmps) {t k off m c : Nat} (hl : lk t s.slots = .one (.atom (.bsl k off m c))) :
    Sim hE w0 inc n { s with slots := (t, .one (.atom (.sl (.slice (some ⟨β k, off, none⟩) m c) m))) :: s.slots } h β w tmps := by
  refine ⟨hS.size, fun x => ?_, hS.box, hS.inj, hS.keys, hS.fresh, hS.ghost, hS.gno, hS.frame, hS.gle, hS.gold, hS.own, hS.ownB, hS.ownI⟩
  show SVOk s.nb β tmps (lk x ((t, .one (.atom (.sl (.slice (some ⟨β k, off, none⟩) m c) m))) :: s.slots)) _
  rw [lk_put]
  by_cases e : t = x
  · subst e
    rw [if_pos rfl]
    have h1 := hS.slots t
    rw [hl] at h1
    have h3 : tmps.getD t undef = .slice (some ⟨β k, off, none⟩) m c := h1.1
    exact ⟨h3, _, _, rfl⟩
  · rw [if_neg e]
    have hs := hS.slots x
    cases hx : lk x s.slots with
    | one v => rw [hx] at hs; exact hs
    | tup v => rw [hx] at hs; exact hs
    | gd g b v =>
      rw [hx] at hs
      simp only
      split
      · exact trivial
      · exact hs

/-- **A literal slice that nobody writes any more**: slot t holds it. -/
theorem G.freezeBox {C : Ctx} {h : GH} {c : Cfg} (k t : Nat) {off m cp : Nat} {bi : Option Nat} {T : TypeId} {cs : List Cell} {vs : List Value} (hb : bx k c.s.boxes = some ⟨bi, .lit T cs⟩) (hv : cellVals cs = some vs) (hl : lk t c.s.slots = .one (.atom (.bsl k off m cp)))
    (hk : ∀ b h', GLe h h' → h' b = some (.cells vs.toArray T (0, 0)) → G C h' ⟨c.todo, { c.s with slots := (t, .one (.atom (.sl (.slice (some ⟨b, off, none⟩) m cp) m))) :: c.s.slots, boxes := dropBox k c.s.boxes }⟩) : G C h c := by
  intro β w tmps hS
  exact hk (β k) _ (GLe.addG hS hb _) (by simp [addG]) β w tmps ((hS.freezeBox hb hv).bslVal (t := t) hl)

theorem GD.freezeBox {C : Ctx} {h0 h : GH} {ops : Array Oper} {kk : List Item} {ks : List Nat} {d : DCfg} (k t : Nat) {off m cp : Nat} {bi : Option Nat} {T : TypeId} {cs : List Cell} {vs : List Value} (hb : bx k d.s.boxes = some ⟨bi, .lit T cs⟩) (hv : cellVals cs = some vs) (hl : lk t d.s.slots = .one (.atom (.bsl k off m cp))) (hks : memN k ks = false)
    (hk : ∀ b h', GLe h h' → h' b = some (.cells vs.toArray T (0, 0)) → GD C h0 h' ops kk ks ⟨d.fuel, d.listed, { d.s with slots := (t, .one (.atom (.sl (.slice (some ⟨b, off, none⟩) m cp) m))) :: d.s.slots, boxes := dropBox k d.s.boxes }⟩) : GD C h0 h ops kk ks d := by
  intro β w tmps L hS hL hlive hle
  have hle' := GLe.addG hS hb (.cells vs.toArray T (0, 0))
  exact hk (β k) _ hle' (by simp [addG]) β w tmps L ((hS.freezeBox hb hv).bslVal (t := t) hl) hL (fun x hx => by
    obtain ⟨b, hb'⟩ := hlive x hx
    exact ⟨b, bx_drop_of (fun e => by rw [e] at hx; rw [memN_iff.2 hx] at hks; cases hks) hb'⟩) (hle.trans hle')

theorem Mend.of_grow {h h' : GH} {w w' : World} (hg : Grow h w h' w') : Mend h w ⟨[], []⟩ h' w' ⟨[], []⟩ :=
  ⟨⟨fun k x hk => by simp at hk, fun k l x y hk => by simp at hk, fun k o hk => by simp at hk, fun k o b hk => by simp at hk, fun k l o p b hk => by simp at hk⟩, rfl, Frm.of_below hg.below [], hg.le, fun b hb _ => hg.old b hb, hg.sub, fun k o b hk => by simp at hk⟩
end Go.Proofs.Ytkjahaoobdbffaa
