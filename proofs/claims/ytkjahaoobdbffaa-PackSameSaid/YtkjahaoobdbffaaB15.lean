/- The base of this seat's proofs, fifteenth part: regions of open order where several operations may come up: all orders are gone through by computation. -/
import Derived.Test.YtkjahaoobdbffaaB14
namespace Go.Proofs.Ytkjahaoobdbffaa
open Go Go.RowKit

def nextOf (P : Program) (n : Nat) (ops : Array Oper) (ks : List Nat) (d : DCfg) (i : Nat) : Option DCfg := match effAt P n ops ks d i with
  | some d' => some d'
  | none => effGAt P n ops d i

def nextsOf (P : Program) (n : Nat) (ops : Array Oper) (ks : List Nat) (d : DCfg) : List Nat → Option (List DCfg)
  | [] => some []
  | i :: is => match nextOf P n ops ks d i, nextsOf P n ops ks d is with
    | some x, some xs => some (x :: xs)
    | _, _ => none

def isPos : Nat → Bool
  | 0 => false
  | _ + 1 => true

/-- Where the region's orders lead, as far as it can be computed. -/
def exploreL (P : Program) (n : Nat) (ops : Array Oper) (ks : List Nat) : Nat → DCfg → List DCfg
  | 0, d => [d]
  | m + 1, d =>
    match isPos (runD P n ops ks 100 d).fuel with
    | false => [runD P n ops ks 100 d]
    | true => match nextsOf P n ops ks (runD P n ops ks 100 d) (Region.ready .any ops (runD P n ops ks 100 d).listed) with
      | some (x :: xs) => (x :: xs).flatMap (exploreL P n ops ks m)
      | _ => [runD P n ops ks 100 d]

theorem nextsOf_ok {P : Program} {n : Nat} {ops : Array Oper} {ks : List Nat} {d : DCfg} : ∀ (l : List Nat) (xs : List DCfg), nextsOf P n ops ks d l = some xs → xs.length = l.length ∧ ∀ i ∈ l, ∃ x ∈ xs, nextOf P n ops ks d i = some x := by
  intro l
  induction l with
  | nil => intro xs h; simp [nextsOf] at h; subst h; simp
  | cons j l ih =>
    intro xs h
    simp only [nextsOf] at h
    split at h
    · rename_i x ys h1 h2
      simp only [Option.some.injEq] at h; subst h
      obtain ⟨h3, h4⟩ := ih _ h2
      refine ⟨by simp [h3], fun i hi => ?_⟩
      simp only [List.mem_cons] at hi
      rcases hi with rfl | hi
      · exact ⟨x, by simp, h1⟩
      · obtain ⟨y, h5, h6⟩ := h4 i hi
        exact ⟨y, by simp [h5], h6⟩
    · simp at h

theorem GDop.next {C : Ctx} {h0 h : GH} {ops : Array Oper} {k : List Item} {ks : List Nat} {d x : DCfg} {i : Nat} (hn : nextOf C.P C.n ops ks d i = some x) (hk : GD C h0 h ops k ks x) : GDop C h0 h ops k ks d i := by
  unfold nextOf at hn
  split at hn
  · rename_i d' hd
    simp only [Option.some.injEq] at hn; subst hn
    exact GDop.eff (by rw [hd]; rfl) (by rw [hd]; exact hk)
  · exact GDop.effG (by rw [hn]; rfl) (by rw [hn]; exact hk)

theorem GD.explore {C : Ctx} {h0 h : GH} {ops : Array Oper} {k : List Item} {ks : List Nat} (hns : Region.noSelect ops = true) : ∀ (m : Nat) {d : DCfg}, (∀ x ∈ exploreL C.P C.n ops ks m d, GD C h0 h ops k ks x) → GD C h0 h ops k ks d
  | 0, d, H => H d (by simp [exploreL])
  | m + 1, d, H => by
    refine GD.run hns 100 ?_
    rw [exploreL] at H
    generalize runD C.P C.n ops ks 100 d = d1 at H
    split at H
    · exact H d1 (by simp)
    · rename_i hp
      split at H
      · rename_i x xs hx
        obtain ⟨h1, h2⟩ := nextsOf_ok _ _ hx
        refine GD.every (Region.ready .any ops d1.listed) ?_ fun i hi => ?_
        · unfold readyIs
          cases hf : d1.fuel with
          | zero => rw [hf] at hp; simp [isPos] at hp
          | succ f =>
            have : Region.ready .any ops d1.listed ≠ [] := by intro e; rw [e] at h1; simp at h1
            simp [List.isEmpty_iff, this]
        · obtain ⟨y, h3, h4⟩ := h2 i hi
          exact GDop.next h4 (GD.explore hns m fun z hz => H z (by simp only [List.mem_flatMap]; exact ⟨y, h3, hz⟩))
      · exact H d1 (by simp)

def restrD (ts bks : List Nat) (nb : Nat) (os : List Nat) (d : DCfg) : DCfg := ⟨d.fuel, d.listed, restrS ts bks nb os d.s⟩

theorem liveRows {s : S} {bks : List Nat} {x : Nat} {b : Box} (hb : bx x s.boxes = some b) (hx : x ∈ bks) : ∃ b, bx x (boxRows s bks) = some b := by
  induction bks with
  | nil => simp at hx
  | cons y l ih =>
    simp only [boxRows]
    simp only [List.mem_cons] at hx
    cases hy : bx y s.boxes with
    | none =>
      simp only
      rcases hx with rfl | hx
      · rw [hb] at hy; cases hy
      · exact ih hx
    | some c =>
      simp only [bx_cons]
      by_cases e : y = x
      · exact ⟨c, by rw [if_pos e]⟩
      · rw [if_neg e]; exact ih (hx.resolve_left fun e' => e e'.symm)

def allMem (ks bks : List Nat) : Bool := ks.all fun k => memN k bks

theorem GD.restr {C : Ctx} {h0 h : GH} {ops : Array Oper} {k : List Item} {ks : List Nat} {d : DCfg} (ts bks : List Nat) (nb : Nat) (os : List Nat) (hok : okS (restrS ts bks nb os d.s) = true) (hks : allMem ks bks = true) (hk : GD C h0 h ops k ks (restrD ts bks nb os d)) : GD C h0 h ops k ks d := by
  intro β w tmps L hS hL hlive hle
  exact hk β w tmps L (hS.restr hok) hL (fun x hx => by
    obtain ⟨b, hb⟩ := hlive x hx
    exact liveRows hb (memN_iff.1 (List.all_eq_true.1 hks x hx))) hle

/-- **All orders of a region lead to the same.** -/
theorem GD.auto {C : Ctx} {h0 h : GH} {ops : Array Oper} {k : List Item} {ks : List Nat} {d d' : DCfg} (hns : Region.noSelect ops = true) (m cnt : Nat) (ts bks : List Nat) (nb : Nat) (os : List Nat) (he : (exploreL C.P C.n ops ks m d).map (restrD ts bks nb os) = List.replicate cnt d') (hok : okS d'.s = true) (hks : allMem ks bks = true)
    (hk : GD C h0 h ops k ks d') : GD C h0 h ops k ks d := by
  refine GD.explore hns m fun x hx => ?_
  have h1 : restrD ts bks nb os x ∈ List.replicate cnt d' := by rw [← he]; exact List.mem_map_of_mem hx
  have h2 := List.eq_of_mem_replicate h1
  refine GD.restr ts bks nb os ?_ hks (by rw [h2]; exact hk)
  have := congrArg DCfg.s h2
  simp only [restrD] at this
  rw [this]; exact hok

/-- Each slot that is told of, the greatest first. -/
def insDesc (t : Nat) : List Nat → List Nat
  | [] => [t]
  | x :: l => match Nat.beq x t with
    | true => x :: l
    | false => match Nat.blt x t with
      | true => t :: x :: l
      | false => x :: insDesc t l

def slotKeys : List (Nat × SV) → List Nat
  | [] => []
  | (t, _) :: l => insDesc t (slotKeys l)

def boxKeys : List (Nat × Box) → List Nat
  | [] => []
  | (t, _) :: l => insDesc t (boxKeys l)

def ownKeys : List (Nat × Own) → List Nat
  | [] => []
  | (t, _) :: l => insDesc t (ownKeys l)

def normS (s : S) : S := restrS (slotKeys s.slots) (boxKeys s.boxes) s.nb (ownKeys s.owns) s
def normD (d : DCfg) : DCfg := ⟨d.fuel, d.listed, normS d.s⟩

theorem mem_insDesc {t x : Nat} : ∀ {l : List Nat}, x = t ∨ x ∈ l → x ∈ insDesc t l := by
  intro l
  induction l with
  | nil => intro h; simpa [insDesc] using h
  | cons y l ih =>
    intro h
    simp only [insDesc]
    split
    · rename_i e
      have := Nat.eq_of_beq_eq_true e
      rcases h with rfl | h
      · simp [this]
      · exact h
    · split
      · simp only [List.mem_cons] at h ⊢; exact h
      · simp only [List.mem_cons] at h ⊢
        rcases h with h | h | h
        · exact .inr (ih (.inl h))
        · exact .inl h
        · exact .inr (ih (.inr h))

theorem mem_boxKeys {x : Nat} {b : Box} : ∀ {l : List (Nat × Box)}, bx x l = some b → x ∈ boxKeys l := by
  intro l
  induction l with
  | nil => intro h; simp [bx] at h
  | cons p l ih =>
    obtain ⟨y, c⟩ := p
    intro h
    rw [bx_cons] at h
    simp only [boxKeys]
    split at h
    · rename_i e; exact mem_insDesc (.inl e.symm)
    · exact mem_insDesc (.inr (ih h))

theorem GD.norm {C : Ctx} {h0 h : GH} {ops : Array Oper} {k : List Item} {ks : List Nat} {d : DCfg} (hok : okS (normS d.s) = true) (hk : GD C h0 h ops k ks (normD d)) : GD C h0 h ops k ks d := by
  intro β w tmps L hS hL hlive hle
  exact hk β w tmps L (hS.restr hok) hL (fun x hx => by
    obtain ⟨b, hb⟩ := hlive x hx
    exact liveRows hb (mem_boxKeys hb)) hle

def okDs : List DCfg → Bool
  | [] => true
  | d :: l => okS (normS d.s) && okDs l

def autoD (P : Program) (n : Nat) (ops : Array Oper) (ks : List Nat) (m : Nat) (d : DCfg) : DCfg := normD ((exploreL P n ops ks m d).headD d)

/-- **All orders of a region lead to the same**, which is told in full. -/
theorem GD.autoN {C : Ctx} {h0 h : GH} {ops : Array Oper} {k : List Item} {ks : List Nat} {d : DCfg} (hns : Region.noSelect ops = true) (m cnt : Nat) (he : (exploreL C.P C.n ops ks m d).map normD = List.replicate cnt (autoD C.P C.n ops ks m d)) (hok : okDs (exploreL C.P C.n ops ks m d) = true)
    (hk : GD C h0 h ops k ks (autoD C.P C.n ops ks m d)) : GD C h0 h ops k ks d := by
  refine GD.explore hns m fun x hx => ?_
  have h1 : normD x ∈ List.replicate cnt (autoD C.P C.n ops ks m d) := by rw [← he]; exact List.mem_map_of_mem hx
  refine GD.norm ?_ (by rw [List.eq_of_mem_replicate h1]; exact hk)
  clear he hk h1
  generalize exploreL C.P C.n ops ks m d = l at hx hok
  induction l with
  | nil => simp at hx
  | cons y l ih =>
    simp only [okDs, Bool.and_eq_true] at hok
    simp only [List.mem_cons] at hx
    rcases hx with rfl | hx
    · exact hok.1
    · exact ih hx hok.2
end Go.Proofs.Ytkjahaoobdbffaa
