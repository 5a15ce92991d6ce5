/- The given inputs, as this seat's proofs see them. -/
import Derived.Deep.Slices
import Derived.SizedLaws
import Derived.Test.YtkjahaoobdbffaaM2
namespace Go.Proofs.Ytkjahaoobdbffaa
open Go Go.RowKit

/-- All memory there is. -/
def heapG (w : World) : GH := fun b => w.heap[b]?
theorem heapG_sub (w : World) : Sub (heapG w) w := fun _ _ h => h

section
variable {H : Type} {enc : TypeId × Value → H} {P : Program} {w : World} {spare : Nat → Bool} {held : Bool}

theorem cell_block {a : Addr} {v : Value} (h : w.cell? a = some v) : ∃ arr T fr, w.heap[a.block]? = some (.cells arr T fr) ∧ a.spot = none ∧ arr[a.off]? = some v := by
  unfold World.cell? at h
  split at h
  · rename_i arr T fr hh
    split at h
    · simp at h
    · rename_i hs
      refine ⟨arr, T, fr, hh, ?_, h⟩
      cases hsp : a.spot with
      | none => rfl
      | some s => rw [hsp] at hs; simp at hs
  · simp at h

/-- No part weighs too much. -/
def WOk (P : Program) (t : TypeId) (d : DataW H) : Prop := ∀ n ∈ d.weights P t, n ≤ reachBytes

theorem weightsAll_mem {e : TypeId} : ∀ {l : List (DataW H)} {d : DataW H}, d ∈ l → ∀ n ∈ d.weights P e, n ∈ DataW.weightsAll P e l := by
  intro l
  induction l with
  | nil => intro d hd; simp at hd
  | cons a l ih =>
    intro d hd n hn
    simp only [DataW.weightsAll, List.mem_append]
    simp only [List.mem_cons] at hd
    rcases hd with rfl | hd
    · exact .inl hn
    · exact .inr (ih hd n hn)

theorem open_SlR {α : Type} {R : List Value → α → Prop} {t e : TypeId} {sz fuel : Nat} {v : Value} {x : DataW H × List MemPlace} (ht : P.underlying t = some (.slice e)) (hc : P.cellsOf e = sz) (hpos : 0 < sz) (hby : 0 < P.bytesOf e) (h : DataW.trod enc P w 0 spare held fuel t [v] = some x) (hw : WOk P t x.1)
    (hR : ∀ n cs y, DataW.trod enc P w 0 spare held n e cs = some y → WOk P e y.1 → ∃ r, R cs r) : ∃ l : List α, SlR (heapG w) sz R v l := by
  rcases Go.Deep.open_slice ht h with ⟨h1, -⟩ | ⟨a, len, cap, m, n, D, Pl, h1, -, hl, -, hmm, hxe, hx⟩
  · simp only [List.cons.injEq, and_true] at h1
    subst h1
    exact ⟨[], none, 0, rfl, Nat.le_refl _, by simp, .inl rfl⟩
  · simp only [List.cons.injEq, and_true] at h1
    subst h1
    have hwD : ∀ i, i < len → WOk P e (D i) := fun i hi k hk => hw k (by
      rw [hxe]; simp only [DataW.weights, ht]
      refine List.mem_cons_of_mem _ (List.mem_append_left _ (weightsAll_mem (d := D i) (List.mem_map.2 ⟨i, List.mem_range.2 hi, rfl⟩) k hk)))
    have hmax : len ≤ 140737488351232 := by
      have h2 := hw ((((List.range len).map D).length + ((List.range (m - len)).map fun j => D (len + j)).length) * P.bytesOf e) (by rw [hxe]; simp only [DataW.weights, ht]; exact List.mem_cons_self)
      simp only [List.length_map, List.length_range, reachBytes] at h2
      have h3 : len * 1 ≤ (len + (m - len)) * P.bytesOf e := Nat.mul_le_mul (by omega) hby
      omega
    have hle : len ≤ m := by rw [hmm]; split <;> omega
    rw [hc] at hx
    by_cases h0 : len = 0
    · subst h0
      exact ⟨[], some a, cap, rfl, Nat.zero_le _, by simp, .inl rfl⟩
    · obtain ⟨cs0, hcs0, -⟩ := hx 0 (by omega)
      obtain ⟨-, hl0, hcell0⟩ := World.cells?_some hcs0
      have h00 := hcell0 0 hpos
      simp only [Nat.zero_mul, Addr.add, if_true] at h00
      rw [List.getElem?_eq_getElem (by omega)] at h00
      obtain ⟨arr, T, fr, hb, hsp, -⟩ := cell_block h00
      obtain ⟨b, off, sp⟩ := a
      simp only at hsp hb
      subst hsp
      have hcells : ∀ i, i < len → off + (i + 1) * sz ≤ arr.size ∧ ∃ r, R ((arr.toList.drop (off + i * sz)).take sz) r := by
        intro i hi
        obtain ⟨cs, hcs, htr⟩ := hx i (by omega)
        obtain ⟨-, hlc, hcell⟩ := World.cells?_some hcs
        have hget : ∀ j, j < sz → arr[off + i * sz + j]? = cs[j]? := fun j hj => by
          have := hcell j hj
          rw [Addr.add_lit, Addr.add_lit, cell_of_heap hb] at this
          exact this
        have hlast := hget (sz - 1) (by omega)
        rw [List.getElem?_eq_getElem (by omega)] at hlast
        have hlt := (Array.getElem?_eq_some_iff.1 hlast).1
        refine ⟨by rw [Nat.add_mul]; omega, ?_⟩
        obtain ⟨r, hr⟩ := hR n cs _ htr (hwD i hi)
        refine ⟨r, ?_⟩
        have he : (arr.toList.drop (off + i * sz)).take sz = cs := by
          apply List.ext_getElem?
          intro j
          by_cases hj : j < sz
          · rw [List.getElem?_take, if_pos hj, List.getElem?_drop, ← hget j hj]; simp
          · rw [List.getElem?_eq_none (by simp; omega), List.getElem?_eq_none (by omega)]
        rw [he]; exact hr
      have hall : ∀ k, k ≤ len → ∃ l : List α, l.length = k ∧ ∀ i r, l[i]? = some r → R ((arr.toList.drop (off + i * sz)).take sz) r := by
        intro k
        induction k with
        | zero => intro _; exact ⟨[], rfl, fun i r h => by simp at h⟩
        | succ k ih =>
          intro hk
          obtain ⟨l, hl1, hl2⟩ := ih (by omega)
          obtain ⟨-, r, hr⟩ := hcells k (by omega)
          refine ⟨l ++ [r], by simp [hl1], fun i s hs => ?_⟩
          by_cases hi : i < l.length
          · rw [List.getElem?_append_left hi] at hs; exact hl2 i s hs
          · have hi' : i = k := by
              have := (List.getElem?_eq_some_iff.1 hs).1
              simp at this; omega
            subst hi'
            rw [List.getElem?_append_right (by omega)] at hs
            simp [hl1] at hs; subst hs; exact hr
      obtain ⟨l, hl1, hl2⟩ := hall len (Nat.le_refl _)
      have hend := (hcells (len - 1) (by omega)).1
      rw [show len - 1 + 1 = len by omega] at hend
      refine ⟨l, some ⟨b, off, none⟩, cap, by rw [hl1], by omega, by omega, .inr ⟨b, off, arr, T, fr, rfl, hb, by rw [hl1]; exact hend, hl2⟩⟩
end

section
variable {H : Type} {enc : TypeId × Value → H} {w : World} {spare : Nat → Bool} {held : Bool} {fuel : Nat} {cs : List Value} {x : DataW H × List MemPlace}

theorem co114 : Try.prog.cellsOf 114 = 5 := by kernel_rfl
theorem co34 : Try.prog.cellsOf 34 = 9 := by kernel_rfl
theorem co32 : Try.prog.cellsOf 32 = 6 := by kernel_rfl
theorem co3 : Try.prog.cellsOf 3 = 1 := by kernel_rfl
theorem co9 : Try.prog.cellsOf 9 = 1 := by kernel_rfl
theorem co29 : Try.prog.cellsOf 29 = 1 := by kernel_rfl
theorem co30 : Try.prog.cellsOf 30 = 1 := by kernel_rfl
theorem by114 : 0 < Try.prog.bytesOf 114 := of_decide_eq_true (by kernel_rfl)
theorem by34 : 0 < Try.prog.bytesOf 34 := of_decide_eq_true (by kernel_rfl)
theorem by3 : 0 < Try.prog.bytesOf 3 := of_decide_eq_true (by kernel_rfl)
theorem co22 : Try.prog.cellsOf 22 = 1 := by kernel_rfl

def i64Ok (n : Int) : Prop := -9223372036854775808 ≤ n ∧ n ≤ 9223372036854775807

theorem open_i {n : Nat} {y : DataW H × List MemPlace} {c : Value} (h : DataW.trod enc Try.prog w 0 spare held n 3 [c] = some y) : ∃ n, c = .int .i64 n ∧ i64Ok n := by
  obtain ⟨n, h1, -, h3⟩ := DataW.trod_int Try.underlying3 h
  simp only [List.cons.injEq, and_true] at h1
  refine ⟨n, h1, ?_⟩
  have : (IntKind.i64.min ≤ n && n ≤ IntKind.i64.max) = true := h3
  simp only [Bool.and_eq_true, decide_eq_true_eq] at this
  exact this

theorem open_s {n : Nat} {y : DataW H × List MemPlace} {c : Value} (h : DataW.trod enc Try.prog w 0 spare held n 9 [c] = some y) : ∃ s, c = .string s := by
  obtain ⟨s, h1, -, -⟩ := DataW.trod_string Try.underlying9 h
  simp only [List.cons.injEq, and_true] at h1
  exact ⟨s, h1⟩

theorem len5 {α : Type} {l : List α} (h : l.length = 5) : ∃ a b c d e, l = [a, b, c, d, e] := by
  match l, h with
  | [a, b, c, d, e], _ => exact ⟨a, b, c, d, e, rfl⟩
theorem len6 {α : Type} {l : List α} (h : l.length = 6) : ∃ a b c d e f, l = [a, b, c, d, e, f] := by
  match l, h with
  | [a, b, c, d, e, f], _ => exact ⟨a, b, c, d, e, f, rfl⟩
theorem len9 {α : Type} {l : List α} (h : l.length = 9) : ∃ a b c d e f g i j, l = [a, b, c, d, e, f, g, i, j] := by
  match l, h with
  | [a, b, c, d, e, f, g, i, j], _ => exact ⟨a, b, c, d, e, f, g, i, j, rfl⟩


theorem fldAt {t : TypeId} {fs : Array Field} (ht : Try.prog.underlying t = some (.struct fs)) (h : DataW.trod enc Try.prog w 0 spare held fuel t cs = some x) (hw : WOk Try.prog t x.1) : cs.length = Try.prog.cellsOf t ∧ ∀ (i t' o k : Nat), (fs[i]?).map (fun f => (f.type, f.offset)) = some (t', o) → Try.prog.cellsOf t' = k →
    ∃ n y, DataW.trod enc Try.prog w 0 spare held n t' ((cs.drop o).take k) = some y ∧ WOk Try.prog t' y.1 := by
  obtain ⟨xs, n, -, hxe, hl, hxl, hf⟩ := DataW.trod_struct ht h
  refine ⟨hl, fun i t' o k h1 h2 => ?_⟩
  obtain ⟨f, h3, h4⟩ := Option.map_eq_some_iff.1 h1
  simp only [Prod.mk.injEq] at h4
  obtain ⟨rfl, rfl⟩ := h4
  subst h2
  have h5 := hf i f h3
  have hi : i < xs.length := by rw [hxl]; exact (Array.getElem?_eq_some_iff.1 h3).1
  refine ⟨n, xs[i], by rw [h5]; simp [hi], fun m hm => hw m ?_⟩
  rw [hxe]
  simp only [DataW.weights, ht]
  have h6 : (fs.toList.map (·.type))[i]? = some f.type := by simp [h3]
  have h7 : (xs.map (·.1))[i]? = some xs[i].1 := by simp [hi]
  exact DataW.weights_mem_each h6 h7 m hm

theorem open_rul (h : DataW.trod enc Try.prog w 0 spare held fuel 114 cs = some x) (hw : WOk Try.prog 114 x.1) : ∃ r, RulR cs r := by
  obtain ⟨hl, hf⟩ := fldAt Try.underlying114 h hw
  rw [co114] at hl
  obtain ⟨c0, c1, c2, c3, c4, rfl⟩ := len5 hl
  obtain ⟨_, _, f0, w0⟩ := hf 0 3 0 1 rfl co3
  obtain ⟨_, _, f1, w1⟩ := hf 1 3 1 1 rfl co3
  obtain ⟨_, _, f2, w2⟩ := hf 2 3 2 1 rfl co3
  obtain ⟨_, _, f3, w3⟩ := hf 3 3 3 1 rfl co3
  obtain ⟨_, _, f4, w4⟩ := hf 4 9 4 1 rfl co9
  obtain ⟨n0, rfl, -⟩ := open_i f0
  obtain ⟨n1, rfl, -⟩ := open_i f1
  obtain ⟨n2, rfl, -⟩ := open_i f2
  obtain ⟨n3, rfl, -⟩ := open_i f3
  obtain ⟨s, rfl⟩ := open_s f4
  exact ⟨⟨n0, n1, n2, n3, s⟩, rfl⟩

theorem open_intR (h : DataW.trod enc Try.prog w 0 spare held fuel 3 cs = some x) : ∃ r, IntR cs r := by
  obtain ⟨n, h1, -, h3⟩ := DataW.trod_int Try.underlying3 h
  exact ⟨n, h1⟩

theorem open_del (h : DataW.trod enc Try.prog w 0 spare held fuel 32 cs = some x) (hw : WOk Try.prog 32 x.1) : ∃ a b c d p q, cs = [.int .i64 a, .int .i64 b, .int .i64 c, .int .i64 d, p, q] ∧ (∃ l, SlR (heapG w) 5 RulR p l) ∧ ∃ k, SlR (heapG w) 1 IntR q k := by
  obtain ⟨hl, hf⟩ := fldAt Try.underlying32 h hw
  rw [co32] at hl
  obtain ⟨c0, c1, c2, c3, c4, c5, rfl⟩ := len6 hl
  obtain ⟨_, _, f0, w0⟩ := hf 0 3 0 1 rfl co3
  obtain ⟨_, _, f1, w1⟩ := hf 1 3 1 1 rfl co3
  obtain ⟨_, _, f2, w2⟩ := hf 2 3 2 1 rfl co3
  obtain ⟨_, _, f3, w3⟩ := hf 3 3 3 1 rfl co3
  obtain ⟨_, _, f4, w4⟩ := hf 4 29 4 1 rfl co29
  obtain ⟨_, _, f5, w5⟩ := hf 5 30 5 1 rfl co30
  obtain ⟨n0, rfl, -⟩ := open_i f0
  obtain ⟨n1, rfl, -⟩ := open_i f1
  obtain ⟨n2, rfl, -⟩ := open_i f2
  obtain ⟨n3, rfl, -⟩ := open_i f3
  exact ⟨n0, n1, n2, n3, c4, c5, rfl, open_SlR Try.underlying29 co114 (by decide) by114 f4 w4 fun n cs y hy hw => open_rul hy hw, open_SlR Try.underlying30 co3 (by decide) by3 f5 w5 fun n cs y hy _ => open_intR hy⟩

theorem open_ent (h : DataW.trod enc Try.prog w 0 spare held fuel 34 cs = some x) (hw : WOk Try.prog 34 x.1) : ∃ e, EntR (heapG w) cs e := by
  obtain ⟨hl, hf⟩ := fldAt Try.underlying34 h hw
  rw [co34] at hl
  obtain ⟨c0, c1, c2, c3, c4, c5, c6, c7, c8, rfl⟩ := len9 hl
  obtain ⟨_, _, f0, w0⟩ := hf 0 3 0 1 rfl co3
  obtain ⟨_, _, f1, w1⟩ := hf 1 3 1 1 rfl co3
  obtain ⟨_, _, f2, w2⟩ := hf 2 3 2 1 rfl co3
  obtain ⟨_, _, f3, w3⟩ := hf 3 32 3 6 rfl co32
  obtain ⟨n0, rfl, -⟩ := open_i f0
  obtain ⟨n1, rfl, -⟩ := open_i f1
  obtain ⟨n2, rfl, -⟩ := open_i f2
  obtain ⟨a, b, c, d, p, q, hd, ⟨l, hp⟩, k, hq⟩ := open_del f3 w3
  simp only [List.drop_succ_cons, List.drop_zero, List.take_succ_cons, List.take_zero, List.cons.injEq, and_true] at hd
  obtain ⟨rfl, rfl, rfl, rfl, rfl, rfl⟩ := hd
  exact ⟨⟨n0, n1, n2, a, b, c, d, l, k⟩, _, _, rfl, hp, hq⟩

theorem open_ents {v : Value} (h : DataW.trod enc Try.prog w 0 spare held fuel 22 [v] = some x) (hw : WOk Try.prog 22 x.1) : ∃ l, EntsR (heapG w) v l :=
  open_SlR Try.underlying22 co34 (by decide) by34 h hw fun n cs y hy hw => open_ent hy hw
end
end Go.Proofs.Ytkjahaoobdbffaa
