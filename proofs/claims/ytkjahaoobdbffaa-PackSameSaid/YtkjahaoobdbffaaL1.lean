/- The plain law of layer 11: right lists of entries have the same bytes just if they are the same. -/
import Derived.Test.YtkjahaoobdbffaaK14
import Derived.Test.YtkjahaoobdbffaaK19
namespace Go.Proofs.Ytkjahaoobdbffaa
open Go Go.RowKit

theorem numV_inj {n m : Int} (hn : numOk n) (hm : numOk m) (h : numV n = numV m) : n = m := by
  have hb : ∀ j, j < 6 → (n + 1).toNat / 2 ^ (40 - 8 * j) % 256 = (m + 1).toNat / 2 ^ (40 - 8 * j) % 256 := fun j hj => by
    have h1 : (numV n)[j]? = (numV m)[j]? := by rw [h]
    have h2 : byteV n j = byteV m j := by simpa [numV, hj] using h1
    rw [byteV_ok hn hj, byteV_ok hm hj] at h2
    simp only [Value.int.injEq, true_and] at h2
    exact Int.ofNat.inj h2
  have key : ∀ j, j ≤ 6 → (n + 1).toNat / 2 ^ (48 - 8 * j) = (m + 1).toNat / 2 ^ (48 - 8 * j) := by
    intro j
    induction j with
    | zero =>
      intro _
      have h1 := hn.2; have h2 := hm.2
      rw [Nat.div_eq_of_lt (by omega), Nat.div_eq_of_lt (by omega)]
    | succ j ih =>
      intro hj
      rw [← val_step _ (by omega : j < 6), ← val_step _ (by omega : j < 6), ih (by omega), hb j (by omega)]
  have := key 6 (Nat.le_refl _)
  simp only [Nat.reduceMul, Nat.sub_self, Nat.pow_zero, Nat.div_one] at this
  have h1 := hn.1; have h2 := hm.1
  omega

def CanRead {α : Type} (f : α → List Value) (a b : α) : Prop := ∀ r s, f a ++ r = f b ++ s → a = b ∧ r = s

theorem num_read {n m : Int} (hn : numOk n) (hm : numOk m) : CanRead numV n m := fun r s h => by
  obtain ⟨h1, h2⟩ := List.append_inj h (by rw [numV_len, numV_len])
  exact ⟨numV_inj hn hm h1, h2⟩

theorem flat_read {α : Type} {f : α → List Value} : ∀ {l k : List α}, (∀ a ∈ l, ∀ b ∈ k, CanRead f a b) → l.length = k.length → ∀ r s, l.flatMap f ++ r = k.flatMap f ++ s → l = k ∧ r = s := by
  intro l
  induction l with
  | nil => intro k _ hl r s h; cases k with
    | nil => exact ⟨rfl, by simpa using h⟩
    | cons b k => simp at hl
  | cons a l ih =>
    intro k hc hl r s h
    cases k with
    | nil => simp at hl
    | cons b k =>
      simp only [List.flatMap_cons, List.append_assoc] at h
      obtain ⟨h1, h2⟩ := hc a (by simp) b (by simp) _ _ h
      obtain ⟨h3, h4⟩ := ih (fun x hx y hy => hc x (by simp [hx]) y (by simp [hy])) (by simpa using hl) r s h2
      exact ⟨by rw [h1, h3], h4⟩

theorem list_read {α : Type} {f : α → List Value} {l k : List α} (hl : l.length ≤ 1000000) (hk : k.length ≤ 1000000) (hc : ∀ a ∈ l, ∀ b ∈ k, CanRead f a b) : ∀ r s, numV l.length ++ (l.flatMap f ++ r) = numV k.length ++ (k.flatMap f ++ s) → l = k ∧ r = s := by
  intro r s h
  obtain ⟨h1, h2⟩ := num_read (n := l.length) (m := k.length) (by unfold numOk; omega) (by unfold numOk; omega) _ _ h
  exact flat_read hc (by omega) r s h2

theorem strCells_inj {t u : ByteArray} (h : Lib.strCells t = Lib.strCells u) : t = u := by
  unfold Lib.strCells at h
  have h1 : t.data.toList = u.data.toList := by
    have : ∀ (l k : List UInt8), (l.map fun b => Value.int .u8 b.toNat) = (k.map fun b => Value.int .u8 b.toNat) → l = k := by
      intro l
      induction l with
      | nil => intro k h; cases k <;> simp_all
      | cons a l ih =>
        intro k h
        cases k with
        | nil => simp at h
        | cons b k =>
          simp only [List.map_cons, List.cons.injEq, Value.int.injEq, true_and] at h
          rw [ih k h.2, UInt8.toNat_inj.1 (Int.ofNat.inj h.1)]
    exact this _ _ h
  cases t; cases u; simp only at h1; rw [Array.ext' h1]

theorem text_read {t u : ByteArray} (ht : (t.size : Int) ≤ 2 ^ 40) (hu : (u.size : Int) ≤ 2 ^ 40) : CanRead textV t u := by
  intro r s h
  unfold textV at h
  rw [List.append_assoc, List.append_assoc] at h
  obtain ⟨h1, h2⟩ := num_read (n := t.size) (m := u.size) (by unfold numOk; omega) (by unfold numOk; omega) _ _ h
  obtain ⟨h3, h4⟩ := List.append_inj h2 (by rw [Lib.strCells_length, Lib.strCells_length]; omega)
  exact ⟨strCells_inj h3, h4⟩

theorem rul_read {a b : Rul} (ha : rulOk a) (hb : rulOk b) : CanRead rulB a b := by
  intro r s h
  unfold rulB at h
  simp only [List.flatMap_cons, List.flatMap_nil, List.append_nil, List.append_assoc] at h
  obtain ⟨a1, a2, a3, a4, a5⟩ := ha
  obtain ⟨b1, b2, b3, b4, b5⟩ := hb
  obtain ⟨e1, h⟩ := num_read a1 b1 _ _ h
  obtain ⟨e2, h⟩ := num_read a2 b2 _ _ h
  obtain ⟨e3, h⟩ := num_read a3 b3 _ _ h
  obtain ⟨e4, h⟩ := num_read a4 b4 _ _ h
  obtain ⟨e5, h⟩ := text_read a5 b5 _ _ h
  cases a; cases b; simp_all

theorem ent_read {a b : Ent} (ha : entOk a) (hb : entOk b) : CanRead entB a b := by
  intro r s h
  simp only [entB, rulsB, intsB, List.append_assoc] at h
  obtain ⟨h1, h2⟩ := flat_read (fun x hx y hy => num_read (ha.ns x hx) (hb.ns y hy)) rfl _ _ h
  obtain ⟨h3, h4⟩ := list_read ha.lp hb.lp (fun x hx y hy => rul_read (ha.put x hx) (hb.put y hy)) _ _ h2
  obtain ⟨h5, h6⟩ := list_read ha.ld hb.ld (fun x hx y hy => num_read (ha.drop x hx) (hb.drop y hy)) _ _ h4
  refine ⟨?_, h6⟩
  cases a; cases b
  simp_all [entNs]

theorem ents_inj {l k : List Ent} (hl : ∀ e ∈ l, entOk e) (hk : ∀ e ∈ k, entOk e) (h1 : l.length ≤ 1000000) (h2 : k.length ≤ 1000000) (h : entsB l = entsB k) : l = k :=
  (list_read h1 h2 (fun x hx y hy => ent_read (hl x hx) (hk y hy)) [] [] (by simpa [entsB] using h)).1

/-- What a message of kind 5 with a log is. -/
def msg5 (l : List Ent) : Msg := ⟨5, 0, 0, 0, 0, 0, 0, l⟩

theorem msg5_right {l : List Ent} (h : msgRight (msg5 l) = true) : (∀ e ∈ l, entOk e) ∧ l.length ≤ 64 := by
  simp only [msgRight, msg5, Bool.and_eq_true] at h
  have h2 : logged l 0 64 = true := h.2
  simp only [logged, Bool.and_eq_true, decide_eq_true_eq, Bool.not_eq_true', List.any_eq_false] at h2
  exact ⟨fun e he => entOk_of (by have := h2.2 e he; simpa using this), by omega⟩

theorem msg5_inj {l k : List Ent} (hl : msgRight (msg5 l) = true) (hk : msgRight (msg5 k) = true) (h : msgB (msg5 l) = msgB (msg5 k)) : l = k := by
  obtain ⟨h1, h2⟩ := msg5_right hl
  obtain ⟨h3, h4⟩ := msg5_right hk
  exact ents_inj h1 h3 (by omega) (by omega) (List.append_cancel_left h)

/-! ### Bytes as strings -/

def IsB (xs : List Value) : Prop := ∃ ns : List Int, xs = ns.map (Value.int .u8) ∧ ∀ n ∈ ns, 0 ≤ n ∧ n ≤ 255

theorem IsB.append {a b : List Value} (ha : IsB a) (hb : IsB b) : IsB (a ++ b) := by
  obtain ⟨x, rfl, hx⟩ := ha
  obtain ⟨y, rfl, hy⟩ := hb
  exact ⟨x ++ y, by simp, fun n hn => (List.mem_append.1 hn).elim (hx n) (hy n)⟩
theorem IsB.nil : IsB [] := ⟨[], rfl, by simp⟩
theorem IsB.flat {α : Type} {f : α → List Value} : ∀ {l : List α}, (∀ a ∈ l, IsB (f a)) → IsB (l.flatMap f) := by
  intro l
  induction l with
  | nil => intro _; exact .nil
  | cons a l ih => intro h; rw [List.flatMap_cons]; exact (h a (by simp)).append (ih fun x hx => h x (by simp [hx]))
theorem IsB.num (n : Int) : IsB (numV n) := by
  refine ⟨(List.range 6).map fun j => IntKind.u8.wrap (IntKind.i64.wrap (n + 1) / 2 ^ (40 - 8 * j)), by simp [numV, byteV], fun m hm => ?_⟩
  obtain ⟨j, -, rfl⟩ := List.mem_map.1 hm
  rw [IntKind.wrap_u8]; omega
theorem IsB.str (t : ByteArray) : IsB (Lib.strCells t) := by
  refine ⟨t.data.toList.map fun b => (b.toNat : Int), by simp [Lib.strCells], fun m hm => ?_⟩
  obtain ⟨b, -, rfl⟩ := List.mem_map.1 hm
  have := b.toNat_lt
  omega
theorem IsB.ints (l : List Int) : IsB (l.flatMap numV) := .flat fun n _ => .num n
theorem IsB.rul (r : Rul) : IsB (rulB r) := (IsB.ints _).append ((IsB.num _).append (.str _))
theorem IsB.ent (e : Ent) : IsB (entB e) := (IsB.ints _).append (((IsB.num _).append (.flat fun r _ => .rul r)).append ((IsB.num _).append (.ints _)))
theorem IsB.msg (m : Msg) : IsB (msgB m) := (IsB.ints _).append ((IsB.num _).append (.flat fun e _ => .ent e))
theorem IsB.rcd (m : Rcd) : IsB (rcdB m) := (IsB.ints _).append ((IsB.num _).append (.flat fun e _ => .ent e))

theorem bstr_data : ∀ (ns : List Int) (a : ByteArray), (ns.foldl (fun r n => r.push (UInt8.ofNat n.toNat)) a).data.toList = a.data.toList ++ ns.map fun n => UInt8.ofNat n.toNat := by
  intro ns
  induction ns with
  | nil => intro a; simp
  | cons n ns ih => intro a; rw [List.foldl_cons, ih]; simp [ByteArray.push]

theorem bstr_inj {ns ms : List Int} (hn : ∀ n ∈ ns, 0 ≤ n ∧ n ≤ 255) (hm : ∀ n ∈ ms, 0 ≤ n ∧ n ≤ 255) (h : bstr ns = bstr ms) : ns = ms := by
  have h1 := congrArg (fun t : ByteArray => t.data.toList) h
  simp only [bstr, bstr_data] at h1
  replace h1 := List.append_cancel_left h1
  clear h
  induction ns generalizing ms with
  | nil => cases ms <;> simp_all
  | cons n ns ih =>
    cases ms with
    | nil => simp at h1
    | cons m ms =>
      simp only [List.map_cons, List.cons.injEq] at h1
      have e1 := hn n (by simp)
      have e2 := hm m (by simp)
      have h2 := congrArg UInt8.toNat h1.1
      simp only [UInt8.toNat_ofNat'] at h2
      rw [ih (fun x hx => hn x (by simp [hx])) (fun x hx => hm x (by simp [hx])) h1.2, show n = m by omega]

theorem map_u8_inj {ns ms : List Int} (h : ns.map (Value.int .u8) = ms.map (Value.int .u8)) : ns = ms := by
  induction ns generalizing ms with
  | nil => cases ms <;> simp_all
  | cons n ns ih => cases ms with
    | nil => simp at h
    | cons m ms => simp only [List.map_cons, List.cons.injEq, Value.int.injEq, true_and] at h; rw [h.1, ih h.2]

/-- **Right lists have the same bytes just if they are the same.** -/
theorem pack_same {a b : List Ent} {na nb : List Int} (ha : msgB (msg5 a) = na.map (Value.int .u8)) (hb : msgB (msg5 b) = nb.map (Value.int .u8)) (h1 : ∀ n ∈ na, 0 ≤ n ∧ n ≤ 255) (h2 : ∀ n ∈ nb, 0 ≤ n ∧ n ≤ 255) (hra : msgRight (msg5 a) = true) (hrb : msgRight (msg5 b) = true) :
    decide (a = b) = decide (bstr na = bstr nb) := by
  rw [decide_eq_decide]
  constructor
  · rintro rfl
    rw [map_u8_inj (ha.symm.trans hb)]
  · intro h
    have := bstr_inj h1 h2 h
    subst this
    exact msg5_inj hra hrb (ha.trans hb.symm)

theorem small_len {l : List Ent} (h : smallLog l = true) : (msgB (msg5 l)).length ≤ 10000000 ∧ (∀ e ∈ l, Bnd e) ∧ l.length ≤ 70 := by
  simp only [smallLog, Bool.and_eq_true, List.all_eq_true, decide_eq_true_eq, smallE, smallR] at h
  obtain ⟨h1, h2⟩ := h
  refine ⟨?_, fun e he => by have := h1 e he; unfold Bnd; omega, h2⟩
  have hr : ∀ (l : List Rul), (∀ r ∈ l, r.pat.size ≤ 300) → (l.flatMap rulB).length ≤ 330 * l.length := by
    intro l
    induction l with
    | nil => intro _; simp
    | cons a l ih => intro h; have := ih fun x hx => h x (by simp [hx]); have h3 := h a (by simp); simp only [List.flatMap_cons, List.length_append, rulB_len, List.length_cons]; omega
  have he : ∀ e ∈ l, (entB e).length ≤ 10000 := fun e he => by
    obtain ⟨⟨h3, h4⟩, h5⟩ := h1 e he
    have h6 := hr e.put h5
    rw [entB, List.length_append, List.length_append, flat_len, rulsB, intsB, List.length_append, List.length_append, numV_len, numV_len, flat_len]
    simp only [entNs, List.length_cons, List.length_nil]; omega
  have hl : ∀ (l : List Ent), (∀ e ∈ l, (entB e).length ≤ 10000) → (l.flatMap entB).length ≤ 10000 * l.length := by
    intro l
    induction l with
    | nil => intro _; simp
    | cons a l ih => intro h; have := ih fun x hx => h x (by simp [hx]); have h3 := h a (by simp); simp only [List.flatMap_cons, List.length_append, List.length_cons]; omega
  have h7 := hl l he
  rw [msgB, List.length_append, flat_len, entsB, List.length_append, numV_len]
  simp only [msgNs, List.length_cons, List.length_nil, msg5]; omega
end Go.Proofs.Ytkjahaoobdbffaa
