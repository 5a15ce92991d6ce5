/- The base of this seat's proofs, fifth part: what is known is carried over a slot's writing and an operation's effect. -/
import Derived.Test.YtkjahaoobdbffaaB4
namespace Go.Proofs.Ytkjahaoobdbffaa
open Go Go.RowKit

def putS (s : S) (d : Option Nat) (sv : SV) : S := match d with
  | some d => { s with slots := (d, sv) :: s.slots }
  | none => s

def applyEff (s : S) : Eff → S
  | .no => s
  | .new T cs => { s with boxes := (s.nb, ⟨none, .lit T cs⟩) :: s.boxes, nb := s.nb + 1 }
  | .upd k T cs => match bx k s.boxes with
    | some b => { s with boxes := (k, ⟨b.inc, .lit T cs⟩) :: s.boxes }
    | none => s

theorem lkAux_more (t d : Nat) : ∀ (l : List (Nat × SV)) (newer : List Nat), lkAux t (newer ++ [d]) l = match lkAux t newer l with
    | .gd g b v => if Nat.beq g d then anyS else .gd g b v
    | x => x := by
  intro l
  induction l with
  | nil => intro newer; rfl
  | cons p l ih =>
    intro newer
    obtain ⟨x, sv⟩ := p
    simp only [lkAux]
    split
    · cases sv with
      | one v => rfl
      | tup v => rfl
      | gd g b v =>
        simp only [List.any_append, List.any_cons, List.any_nil, Bool.or_false]
        cases h1 : newer.any (Nat.beq g) <;> cases h2 : Nat.beq g d <;> simp [anyS, h2]
    · exact ih (x :: newer)

theorem lk_put (t d : Nat) (sv : SV) (l : List (Nat × SV)) : lk t ((d, sv) :: l) = if d = t then sv else match lk t l with
    | .gd g b v => if Nat.beq g d then anyS else .gd g b v
    | x => x := by
  unfold lk
  by_cases h : d = t
  · subst h
    simp only [lkAux, Nat.beq_refl, if_true]
    cases sv <;> simp
  · have : Nat.beq d t = false := by
      cases hb : Nat.beq d t
      · rfl
      · exact absurd (Nat.eq_of_beq_eq_true hb) h
    simp only [lkAux, this, if_neg h, Bool.false_eq_true, if_false]
    exact lkAux_more t d l []

theorem nbeq_iff {a b : Nat} : (Nat.beq a b = true) ↔ a = b := ⟨Nat.eq_of_beq_eq_true, fun h => by subst h; exact Nat.beq_refl a⟩

section sim
variable {hE : GH} {w0 : World} {inc : List Nat} {n : Nat} {s : S} {h : GH} {β : Nat → Nat} {w : World} {tmps : Array Value}

theorem getD_set_same {d : Nat} {u : Value} (hd : d < tmps.size) : (tmps.setIfInBounds d u).getD d undef = u := by simp [hd]
theorem getD_set_other {d t : Nat} {u : Value} (hd : d ≠ t) : (tmps.setIfInBounds d u).getD t undef = tmps.getD t undef := by
  simp [Array.getD_eq_getD_getElem?, Array.getElem?_setIfInBounds_ne hd]

theorem SVOk.any {N : Nat} (v : Value) : SVOk N β tmps anyS v := trivial

/-- A slot is written. -/
theorem Sim.put (hS : Sim hE w0 inc n s h β w tmps) {d : Nat} (hd : d < n) {sv : SV} {u : Value} (hv : SVOk s.nb β (tmps.setIfInBounds d u) sv u) :
    Sim hE w0 inc n (putS s (some d) sv) h β w (tmps.setIfInBounds d u) where
  size := by simpa using hS.size
  slots t := by
    show SVOk s.nb β _ (lk t ((d, sv) :: s.slots)) _
    rw [lk_put]
    by_cases hdt : d = t
    · subst hdt
      rw [if_pos rfl, getD_set_same (by rw [hS.size]; exact hd)]
      exact hv
    · rw [if_neg hdt, getD_set_other hdt]
      have hs := hS.slots t
      cases hl : lk t s.slots with
      | one v => rw [hl] at hs; exact hs
      | tup v => rw [hl] at hs; exact hs
      | gd g b v =>
        rw [hl] at hs
        simp only
        split
        · exact trivial
        · rename_i hg
          have hg : d ≠ g := fun e => hg (nbeq_iff.2 e.symm)
          simp only [SVOk] at hs ⊢
          rw [getD_set_other hg]
          exact hs
  box := hS.box
  inj := hS.inj
  keys := hS.keys
  fresh := hS.fresh
  ghost := hS.ghost
  gno := hS.gno
  frame := hS.frame
  gle := hS.gle
  gold := hS.gold
  own := hS.own
  ownB := hS.ownB
  ownI := hS.ownI

/-- A world that differs in nothing that is known of. -/
theorem Sim.of_heap (hS : Sim hE w0 inc n s h β w tmps) {w' : World} (e1 : w'.heap = w.heap) (e2 : w'.os = w.os) (e3 : w'.tape = w.tape) (e4 : w'.output = w.output) : Sim hE w0 inc n s h β w' tmps where
  size := hS.size
  slots := hS.slots
  box k b hb := (hS.box k b hb).of_block (by rw [e1])
  inj := hS.inj
  keys := hS.keys
  fresh := hS.fresh
  ghost b o hb := by rw [e1]; exact hS.ghost b o hb
  gno := hS.gno
  frame := hS.frame.of_heap e1 e2 e3 e4
  gle := hS.gle
  gold := hS.gold
  own k o ho := ownsRow_of_block (hS.own k o ho) fun b _ => by rw [e1]
  ownB := hS.ownB
  ownI := hS.ownI

theorem bx_cons (k l : Nat) (b : Box) (bs : List (Nat × Box)) : bx k ((l, b) :: bs) = if l = k then some b else bx k bs := by
  simp only [bx]
  by_cases h : l = k
  · subst h; simp
  · have : Nat.beq l k = false := by
      cases hb : Nat.beq l k
      · rfl
      · exact absurd (Nat.eq_of_beq_eq_true hb) h
    simp [this, h]

/-- A new block is laid. -/
theorem Sim.new (hS : Sim hE w0 inc n s h β w tmps) {T : TypeId} {cs : List Cell} {arr : Array Value} (hc : CellsOk s.nb β cs arr.toList) :
    Sim hE w0 inc n (applyEff s (.new T cs)) h (fun k => if k = s.nb then w.heap.size else β k) (w.alloc (.cells arr T)) tmps := by
  have hb : ∀ k, k < s.nb → (fun k => if k = s.nb then w.heap.size else β k) k = β k := fun k hk => by simp [Nat.ne_of_lt hk]
  have hold : ∀ b, b < w.heap.size → (w.alloc (.cells arr T)).heap[b]? = w.heap[b]? := fun b hb => Below.heap_alloc w _ b hb
  have hnew : (w.alloc (.cells arr T)).heap[w.heap.size]? = some (.cells arr T) := (MapKept.heap_alloc w _).1
  have hlt : ∀ k b, bx k s.boxes = some b → β k < w.heap.size := fun k b hk => (hS.box k b hk).lt
  refine ⟨hS.size, fun t => (hS.slots t).rename (Nat.le_succ _) hb, ?_, ?_, ?_, ?_, ?_, ?_, ?_, hS.gle, hS.gold, ?_, ?_, hS.ownI⟩
  · intro k b hk
    simp only [applyEff, bx_cons] at hk
    split at hk
    · rename_i e; subst e
      simp only [Option.some.injEq] at hk; subst hk
      simp only [if_true]
      exact ⟨arr, hnew, hc.rename (Nat.le_succ _) hb⟩
    · have hne : k ≠ s.nb := fun e => by rename_i h; exact h e.symm
      simp only [if_neg hne]
      exact ((hS.box k b hk).rename (Nat.le_succ _) hb).of_block (hold _ (hlt k b hk))
  · intro k l b c hk hl hkl
    simp only [applyEff, bx_cons] at hk hl
    by_cases ek : s.nb = k
    · subst ek
      have hne : l ≠ s.nb := fun e => hkl e.symm
      rw [if_neg (fun e => hkl e)] at hl
      simp only [if_true, if_neg hne]
      have := hlt l c hl
      omega
    · rw [if_neg ek] at hk
      have hk' : k ≠ s.nb := fun e => ek e.symm
      by_cases el : s.nb = l
      · subst el
        simp only [if_true, if_neg hk']
        have := hlt k b hk
        omega
      · rw [if_neg el] at hl
        have hl' : l ≠ s.nb := fun e => el e.symm
        simp only [if_neg hk', if_neg hl']
        exact hS.inj k l b c hk hl hkl
  · intro k b hk
    simp only [applyEff, bx_cons] at hk ⊢
    split at hk
    · rename_i e; omega
    · have := hS.keys k b hk; omega
  · intro k b hk
    simp only [applyEff, bx_cons] at hk
    split at hk
    · rename_i e; subst e
      simp only [Option.some.injEq] at hk; subst hk
      simp only [if_true]
      exact hS.frame.size
    · have hne : k ≠ s.nb := fun e => by rename_i h; exact h e.symm
      simp only [if_neg hne]
      exact hS.fresh k b hk
  · intro b o ho
    have := hS.ghost b o ho
    rw [hold b (Array.getElem?_eq_some_iff.1 this).1]; exact this
  · intro k b hk
    simp only [applyEff, bx_cons] at hk
    split at hk
    · rename_i e; subst e
      simp only [if_true]
      cases hh : h w.heap.size with
      | none => rfl
      | some o => have := (Array.getElem?_eq_some_iff.1 (hS.ghost _ o hh)).1; omega
    · have hne : k ≠ s.nb := fun e => by rename_i h; exact h e.symm
      simp only [if_neg hne]
      exact hS.gno k b hk
  · refine hS.frame.trans ⟨rfl, rfl, rfl, by simp, fun b hb _ => hold b hb⟩
  · exact fun k o ho => ownsRow_of_block (hS.own k o ho) fun b hb => hold b (ownsRow_lt (hS.own k o ho) hb)
  · intro k o b ho hb'
    obtain ⟨h1, h2, h3⟩ := hS.ownB k o b ho hb'
    refine ⟨h1, fun j x hj => ?_, h3⟩
    simp only [applyEff, bx_cons] at hj
    split at hj
    · rename_i e; subst e
      simp only [if_true]
      have := ownsRow_lt (hS.own k o ho) hb'
      omega
    · have hne : j ≠ s.nb := fun e => by rename_i h; exact h e.symm
      simp only [if_neg hne]
      exact h2 j x hj

theorem setRow_other {w : World} {g b : Nat} {arr : Array Value} (hne : b ≠ g) : (w.setRow g arr).heap[b]? = w.heap[b]? := by
  simp only [World.setRow, Array.getElem?_modify]
  rw [if_neg (fun e => hne e.symm)]

/-- A known block is written. -/
theorem Sim.upd (hS : Sim hE w0 inc n s h β w tmps) {k : Nat} {T : TypeId} {b : Option Nat} {cs0 cs : List Cell} (hk : bx k s.boxes = some ⟨b, .lit T cs0⟩) {arr : Array Value} (hc : CellsOk s.nb β cs arr.toList) :
    Sim hE w0 inc n (applyEff s (.upd k T cs)) h β (w.setRow (β k) arr) tmps := by
  have hS' : applyEff s (.upd k T cs) = { s with boxes := (k, ⟨b, .lit T cs⟩) :: s.boxes } := by simp [applyEff, hk]
  rw [hS']
  obtain ⟨arr0, hh, hc0⟩ := hS.box _ _ hk
  have hnew : (w.setRow (β k) arr).heap[β k]? = some (.cells arr T (0, 0)) := setRow_heap w (β k) arr0 arr T (0, 0) hh
  have hold : ∀ x, x ≠ β k → (w.setRow (β k) arr).heap[x]? = w.heap[x]? := fun x hx => setRow_other hx
  have hsz : (w.setRow (β k) arr).heap.size = w.heap.size := by simp [World.setRow]
  refine ⟨hS.size, hS.slots, ?_, ?_, ?_, ?_, ?_, ?_, ?_, hS.gle, hS.gold, ?_, ?_, hS.ownI⟩
  · intro l c hl
    simp only [bx_cons] at hl
    split at hl
    · rename_i e; subst e
      simp only [Option.some.injEq] at hl; subst hl
      exact ⟨arr, hnew, hc⟩
    · rename_i e
      exact (hS.box l c hl).of_block (hold _ (hS.inj l k c _ hl hk (fun e' => e e'.symm)))
  · intro l m c d hl hm hlm
    simp only [bx_cons] at hl hm
    split at hl <;> split at hm
    · rename_i e e'; omega
    · rename_i e e'; subst e; exact hS.inj _ _ _ _ hk hm hlm
    · rename_i e e'; subst e'; exact hS.inj _ _ _ _ hl hk hlm
    · exact hS.inj _ _ _ _ hl hm hlm
  · intro l c hl
    simp only [bx_cons] at hl
    split at hl
    · rename_i e; subst e; exact hS.keys _ _ hk
    · exact hS.keys _ _ hl
  · intro l c hl
    simp only [bx_cons] at hl
    split at hl
    · rename_i e; subst e
      simp only [Option.some.injEq] at hl; subst hl
      have := hS.fresh _ _ hk; exact this
    · exact hS.fresh _ _ hl
  · intro x o ho
    have h1 := hS.ghost x o ho
    have hne : x ≠ β k := fun e => by subst e; rw [hS.gno k _ hk] at ho; cases ho
    rw [hold x hne]; exact h1
  · intro l c hl
    simp only [bx_cons] at hl
    split at hl
    · rename_i e; subst e; exact hS.gno _ _ hk
    · exact hS.gno _ _ hl
  · refine ⟨hS.frame.os, hS.frame.tape, hS.frame.output, by rw [hsz]; exact hS.frame.size, fun x hx hn => ?_⟩
    have hne : x ≠ β k := by
      have := hS.fresh _ _ hk
      cases b with
      | none => simp only at this; omega
      | some m => simp only at this; rintro rfl; rw [this.1] at hn; exact hn this.2
    rw [hold x hne]; exact hS.frame.block x hx hn
  · exact fun l o ho => ownsRow_of_block (hS.own l o ho) fun x hx => hold x fun e => (hS.ownB l o x ho hx).2.1 k _ hk e.symm
  · intro l o x ho hx
    obtain ⟨h1, h2, h3⟩ := hS.ownB l o x ho hx
    refine ⟨h1, fun j y hj => ?_, h3⟩
    simp only [bx_cons] at hj
    split at hj
    · rename_i e; subst e; exact h2 _ _ hk
    · exact h2 _ _ hj
end sim
end Go.Proofs.Ytkjahaoobdbffaa
