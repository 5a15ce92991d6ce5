/- The base of this seat's proofs, sixteenth part: the same, with operations that are known by their meaning. -/
import Derived.Test.YtkjahaoobdbffaaB15
namespace Go.Proofs.Ytkjahaoobdbffaa
open Go Go.RowKit

/-- An operation, what it means, and what it yields. -/
structure SemRow where
  i : Nat
  view : SemView
  u : Value
  sv : SV1

structure SemRow.Ok (P : Program) (n : Nat) (h0 : GH) (r : SemRow) : Prop where
  ok : gOk n r.view.dst r.view.guard = true
  sv : ∀ N β, SV1Ok N β r.sv r.u
  run : ∀ w, Sub h0 w → r.view.m.run P w = .ok (.value r.u) w

def semTry (ops : Array Oper) (d : DCfg) : List SemRow → Option SemRow
  | [] => none
  | r :: l => match takeAtD ops d r.i with
    | some _ => some r
    | none => semTry ops d l

abbrev Obl := Option SemView × Option SemView

def rnS (P : Program) (n : Nat) (ops : Array Oper) (ks : List Nat) (tb : List SemRow) : Nat → DCfg → DCfg × List Obl
  | 0, d => (d, [])
  | m + 1, d => match semTry ops (runD P n ops ks 100 d) tb with
    | some r => match rnS P n ops ks tb m (afterI ops (runD P n ops ks 100 d) r.i (gdOf r.view.guard r.sv)) with
      | (d2, o) => (d2, (takeAtD ops (runD P n ops ks 100 d) r.i, some r.view) :: o)
    | none => (runD P n ops ks 100 d, [])

def explS (P : Program) (n : Nat) (ops : Array Oper) (ks : List Nat) (tb : List SemRow) : Nat → DCfg → List DCfg × List Obl
  | 0, d => ([d], [])
  | m + 1, d =>
    match rnS P n ops ks tb 20 d with
    | (d1, o) => match isPos d1.fuel with
      | false => ([d1], o)
      | true => match nextsOf P n ops ks d1 (Region.ready .any ops d1.listed) with
        | some (x :: xs) => (((x :: xs).map (explS P n ops ks tb m)).flatMap (·.1), o ++ ((x :: xs).map (explS P n ops ks tb m)).flatMap (·.2))
        | _ => ([d1], o)

def oblsOk (l : List Obl) : Prop := ∀ p ∈ l, p.1 = p.2

theorem semTry_mem {ops : Array Oper} {d : DCfg} {r : SemRow} : ∀ {l : List SemRow}, semTry ops d l = some r → r ∈ l := by
  intro l
  induction l with
  | nil => intro h; simp [semTry] at h
  | cons x l ih =>
    intro h
    simp only [semTry] at h
    split at h
    · simp only [Option.some.injEq] at h; simp [h]
    · simp [ih h]

theorem GD.runS {C : Ctx} {h0 h : GH} {ops : Array Oper} {k : List Item} {ks : List Nat} {tb : List SemRow} (hns : Region.noSelect ops = true) (htb : ∀ r ∈ tb, r.Ok C.P C.n h0) : ∀ (m : Nat) {d : DCfg}, oblsOk (rnS C.P C.n ops ks tb m d).2 → GD C h0 h ops k ks (rnS C.P C.n ops ks tb m d).1 → GD C h0 h ops k ks d
  | 0, _, _, hk => hk
  | m + 1, d, ho, hk => by
    refine GD.run hns 100 ?_
    unfold rnS at ho hk
    generalize runD C.P C.n ops ks 100 d = d1 at ho hk
    split at ho
    · rename_i r hr
      simp only [hr] at hk
      have h1 := htb r (semTry_mem hr)
      have hob : takeAtD ops d1 r.i = some r.view := ho (takeAtD ops d1 r.i, some r.view) (by simp)
      obtain ⟨i, ⟨m', dst, g⟩, u, sv⟩ := r
      refine GD.sem i hob h1.ok u sv h1.sv (says_of h1.run) (GD.runS hns htb m (fun p hp => ho p (by simp [hp])) hk)
    · rename_i hr
      simp only [hr] at hk
      exact hk

theorem GD.exploreS {C : Ctx} {h0 h : GH} {ops : Array Oper} {k : List Item} {ks : List Nat} {tb : List SemRow} (hns : Region.noSelect ops = true) (htb : ∀ r ∈ tb, r.Ok C.P C.n h0) : ∀ (m : Nat) {d : DCfg}, oblsOk (explS C.P C.n ops ks tb m d).2 → (∀ x ∈ (explS C.P C.n ops ks tb m d).1, GD C h0 h ops k ks x) → GD C h0 h ops k ks d
  | 0, d, _, H => H d (by simp [explS])
  | m + 1, d, ho, H => by
    rw [explS] at H ho
    generalize hrs : rnS C.P C.n ops ks tb 20 d = rs at H ho
    obtain ⟨d1, o⟩ := rs
    have key : oblsOk o → GD C h0 h ops k ks d1 → GD C h0 h ops k ks d := fun h1 h2 => GD.runS hns htb 20 (by rw [hrs]; exact h1) (by rw [hrs]; exact h2)
    simp only at H ho
    split at H
    · rename_i hp
      simp only [hp] at ho
      exact key ho (H d1 (by simp))
    · rename_i hp
      simp only [hp] at ho
      split at H
      · rename_i x xs hx
        simp only [hx] at ho
        obtain ⟨h1, h2⟩ := nextsOf_ok _ _ hx
        refine key (fun p hp' => ho p (by simp [hp'])) (GD.every (Region.ready .any ops d1.listed) ?_ fun i hi => ?_)
        · unfold readyIs
          cases hf : d1.fuel with
          | zero => rw [hf] at hp; simp [isPos] at hp
          | succ f =>
            have : Region.ready .any ops d1.listed ≠ [] := by intro e; rw [e] at h1; simp at h1
            simp [this]
        · obtain ⟨y, h3, h4⟩ := h2 i hi
          refine GDop.next h4 (GD.exploreS hns htb m (fun p hp' => ho p ?_) fun z hz => H z ?_)
          · exact List.mem_append_right _ (List.mem_flatMap.2 ⟨_, List.mem_map.2 ⟨y, h3, rfl⟩, hp'⟩)
          · exact List.mem_flatMap.2 ⟨_, List.mem_map.2 ⟨y, h3, rfl⟩, hz⟩
      · rename_i hx
        have ho' : oblsOk o := by
          split at ho
          · rename_i x xs hx'
            exact absurd hx' (by intro e; exact hx x xs e)
          · exact ho
        exact key ho' (H d1 (by simp))

def atS (P : Program) (n : Nat) (ops : Array Oper) (ks : List Nat) (tb : List SemRow) (m : Nat) (d : DCfg) : DCfg := normD ((explS P n ops ks tb m d).1.headD d)

theorem oblsOk_of {l : List Obl} (h : l.map (·.1) = l.map (·.2)) : oblsOk l := by
  induction l with
  | nil => intro p hp; simp at hp
  | cons a l ih =>
    simp only [List.map_cons, List.cons.injEq] at h
    intro p hp
    simp only [List.mem_cons] at hp
    rcases hp with rfl | hp
    · exact h.1
    · exact ih h.2 p hp

/-- **All orders of a region lead to the same**, which is told in full. -/
theorem GD.autoS {C : Ctx} {h0 h : GH} {ops : Array Oper} {k : List Item} {ks : List Nat} {d : DCfg} (tb : List SemRow) (hns : Region.noSelect ops = true) (htb : ∀ r ∈ tb, r.Ok C.P C.n h0) (m cnt : Nat) (ho : (explS C.P C.n ops ks tb m d).2.map (·.1) = (explS C.P C.n ops ks tb m d).2.map (·.2))
    (he : (explS C.P C.n ops ks tb m d).1.map normD = List.replicate cnt (atS C.P C.n ops ks tb m d)) (hok : okDs (explS C.P C.n ops ks tb m d).1 = true)
    (hk : GD C h0 h ops k ks (atS C.P C.n ops ks tb m d)) : GD C h0 h ops k ks d := by
  refine GD.exploreS hns htb m (oblsOk_of ho) fun x hx => ?_
  have h1 : normD x ∈ List.replicate cnt (atS C.P C.n ops ks tb m d) := by rw [← he]; exact List.mem_map_of_mem hx
  refine GD.norm ?_ (by rw [List.eq_of_mem_replicate h1]; exact hk)
  clear he hk h1 ho
  generalize (explS C.P C.n ops ks tb m d).1 = l at hx hok
  induction l with
  | nil => simp at hx
  | cons y l ih =>
    simp only [okDs, Bool.and_eq_true] at hok
    simp only [List.mem_cons] at hx
    rcases hx with rfl | hx
    · exact hok.1
    · exact ih hx hok.2

/-- The same, to the region's end, what is known there being told in full. -/
theorem GD.finS {C : Ctx} {h0 h : GH} {ops : Array Oper} {k : List Item} {ks : List Nat} {d : DCfg} (tb : List SemRow) (hns : Region.noSelect ops = true) (htb : ∀ r ∈ tb, r.Ok C.P C.n h0) (m cnt : Nat) (ts bks : List Nat) (nb : Nat) (os : List Nat) (s' : S) (ho : (explS C.P C.n ops ks tb m d).2.map (·.1) = (explS C.P C.n ops ks tb m d).2.map (·.2))
    (he : (explS C.P C.n ops ks tb m d).1.map (fun x => (doneD ops x, restrS ts bks nb os x.s)) = List.replicate cnt (true, s')) (hok : okS s' = true) (hk : G C h ⟨k, s'⟩) : GD C h0 h ops k ks d := by
  refine GD.exploreS hns htb m (oblsOk_of ho) fun x hx => ?_
  have h1 : (doneD ops x, restrS ts bks nb os x.s) ∈ List.replicate cnt (true, s') := by rw [← he]; exact List.mem_map_of_mem (f := fun x => (doneD ops x, restrS ts bks nb os x.s)) hx
  have h2 := List.eq_of_mem_replicate h1
  simp only [Prod.mk.injEq] at h2
  exact GD.fin h2.1 (G.weaken ts bks nb os h2.2 hok hk)

theorem semRows_nil {P : Program} {n : Nat} {h0 : GH} : ∀ r ∈ ([] : List SemRow), r.Ok P n h0 := fun r hr => by simp at hr
theorem semRows_cons {P : Program} {n : Nat} {h0 : GH} {r : SemRow} {l : List SemRow} (h : r.Ok P n h0) (hl : ∀ x ∈ l, x.Ok P n h0) : ∀ x ∈ r :: l, x.Ok P n h0 := fun x hx => by
  simp only [List.mem_cons] at hx
  rcases hx with rfl | hx
  · exact h
  · exact hl x hx
end Go.Proofs.Ytkjahaoobdbffaa
