/- The base of this seat's proofs, twelfth part: calls that write what was handed to them. -/
import Derived.Test.YtkjahaoobdbffaaB11
namespace Go.Proofs.Ytkjahaoobdbffaa
open Go Go.RowKit

def Cell.plain : Cell → Bool
  | .ptr _ _ => false
  | .bsl _ _ _ _ => false
  | .clo _ _ _ _ => false
  | _ => true

def plainCs : List Cell → Bool
  | [] => true
  | c :: cs => c.plain && plainCs cs

def BoxB.plain : BoxB → Bool
  | .lit _ cs => plainCs cs
  | .obj _ => true

theorem CellOk.plain {N N' : Nat} {β β' : Nat → Nat} {c : Cell} {v : Value} (h : CellOk N β c v) (hp : c.plain = true) : CellOk N' β' c v := by
  cases c <;> simp [Cell.plain] at hp <;> exact h

theorem CellsOk.plain {N N' : Nat} {β β' : Nat → Nat} {cs : List Cell} : ∀ {vs : List Value}, CellsOk N β cs vs → plainCs cs = true → CellsOk N' β' cs vs := by
  induction cs with
  | nil => intro vs h _; cases vs <;> simp_all [CellsOk]
  | cons c cs ih =>
    intro vs h hp
    cases vs with
    | nil => simp [CellsOk] at h
    | cons v vs =>
      simp only [plainCs, Bool.and_eq_true] at hp
      exact ⟨h.1.plain hp.1, ih h.2 hp.2⟩

theorem BoxOk.plain {N N' : Nat} {β β' : Nat → Nat} {w : World} {b : Nat} {x : BoxB} (h : BoxOk N β w b x) (hp : x.plain = true) : BoxOk N' β' w b x := by
  cases x with
  | lit T cs => obtain ⟨arr, h1, h2⟩ := h; exact ⟨arr, h1, h2.plain hp⟩
  | obj o => exact h

/-- What a call may write: blocks with what they hold, and slices of its own. -/
structure Mem where
  bs : List (Nat × BoxB)
  os : List Own

def Mem.inc (m : Mem) : List Nat := m.bs.map (·.1) ++ m.os.filterMap (fun o => o.v.ownBlock)

structure MemOk (h : GH) (w : World) (m : Mem) : Prop where
  box : ∀ (k : Nat) (x : Nat × BoxB), m.bs[k]? = some x → BoxOk 0 (fun _ => 0) w x.1 x.2 ∧ h x.1 = none
  inj : ∀ (k l : Nat) (x y : Nat × BoxB), m.bs[k]? = some x → m.bs[l]? = some y → k ≠ l → x.1 ≠ y.1
  own : ∀ (k : Nat) (o : Own), m.os[k]? = some o → w.ownsRow 0 o.e o.sz o.v o.n o.xs
  ownB : ∀ (k : Nat) (o : Own) (b : Nat), m.os[k]? = some o → o.v.ownBlock = some b → h b = none ∧ ∀ (j : Nat) (x : Nat × BoxB), m.bs[j]? = some x → x.1 ≠ b
  ownI : ∀ (k l : Nat) (o p : Own) (b : Nat), m.os[k]? = some o → m.os[l]? = some p → k ≠ l → o.v.ownBlock = some b → p.v.ownBlock ≠ some b

/-- What has become of it. -/
structure Mend (h : GH) (w : World) (m : Mem) (h' : GH) (w' : World) (m' : Mem) : Prop where
  ok : MemOk h' w' m'
  same : m'.bs.map (·.1) = m.bs.map (·.1)
  frm : Frm m.inc w w'
  le : GLe h h'
  old : ∀ b, b < w.heap.size → b ∉ m.inc → h' b = h b
  sub : Sub h' w'
  fresh : ∀ (k : Nat) (o : Own) (b : Nat), m'.os[k]? = some o → o.v.ownBlock = some b → b ∈ m.inc ∨ w.heap.size ≤ b

def nums (k : Nat) : List (Nat × BoxB) → List (Nat × Box)
  | [] => []
  | (b, x) :: l => (k, ⟨some b, x⟩) :: nums (k + 1) l

def numo (k : Nat) : List Own → List (Nat × Own)
  | [] => []
  | o :: l => (k, o) :: numo (k + 1) l

theorem bx_nums : ∀ {l : List (Nat × BoxB)} {j k : Nat} {b : Box}, bx k (nums j l) = some b → j ≤ k ∧ ∃ x, l[k - j]? = some x ∧ b = ⟨some x.1, x.2⟩ := by
  intro l
  induction l with
  | nil => intro j k b h; simp [nums, bx] at h
  | cons y l ih =>
    intro j k b h
    obtain ⟨y1, y2⟩ := y
    rw [nums, bx_cons] at h
    split at h
    · rename_i e; subst e
      simp only [Option.some.injEq] at h; subst h
      exact ⟨Nat.le_refl _, (y1, y2), by simp, rfl⟩
    · obtain ⟨h1, x, h2, h3⟩ := ih h
      refine ⟨by omega, x, ?_, h3⟩
      rw [show k - j = (k - (j + 1)) + 1 by omega, List.getElem?_cons_succ]; exact h2

theorem ow_numo : ∀ {l : List Own} {j k : Nat} {o : Own}, ow k (numo j l) = some o → j ≤ k ∧ l[k - j]? = some o := by
  intro l
  induction l with
  | nil => intro j k b h; simp [numo, ow] at h
  | cons y l ih =>
    intro j k b h
    rw [numo, ow_cons] at h
    split at h
    · rename_i e; subst e
      simp only [Option.some.injEq] at h; subst h
      exact ⟨Nat.le_refl _, by simp⟩
    · obtain ⟨h1, h2⟩ := ih h
      refine ⟨by omega, ?_⟩
      rw [show k - j = (k - (j + 1)) + 1 by omega, List.getElem?_cons_succ]; exact h2

def Mem.β (m : Mem) : Nat → Nat := fun k => match m.bs[k]? with
  | some x => x.1
  | none => 0

theorem Mem.β_of {m : Mem} {k : Nat} {x : Nat × BoxB} (h : m.bs[k]? = some x) : m.β k = x.1 := by simp [Mem.β, h]

/-- **The way in**, with memory that may be written. -/
theorem Calls.enterM {P : Program} {f : FuncId} {fn : Func} {c : Code} {w : World} {R : Ending → World → Prop} {h : GH} {n : Nat} (m : Mem) (svs : List SV1) {args : Array Value} (hf : P.funcs[f]? = some fn) (hb : fn.body = some c) (hnt : fn.ntmps = n)
    (hpl : (m.bs.all fun x => x.2.plain) = true) (hm : MemOk h w m)
    (hargs : SV1sOk m.bs.length m.β svs args.toList) (hn : args.size ≤ n) (hs : Sub h w) (hG : G ⟨P, f, h, w, m.inc, n, R⟩ h ⟨[.code c], ⟨number 0 svs, nums 0 m.bs, m.bs.length, numo 0 m.os⟩⟩) : Calls P f args w R := by
  subst hnt
  refine Calls.of_reach (inc := m.inc) hf hb (hG m.β w _ ?_)
  have hpl' : ∀ (k : Nat) (x : Nat × BoxB), m.bs[k]? = some x → x.2.plain = true := fun k x hx => List.all_eq_true.1 hpl x (List.mem_of_getElem? hx)
  refine Sim.enter hargs hn hs (fun k b hk => ?_) (fun k l b c hk hl hne => ?_) (fun k b hk => ?_) (fun k b hk => ?_) (fun k b hk => ?_) (fun k o ho => ?_) (fun k o b ho hb => ?_) (fun k l o p b ho hp hne => ?_)
  · obtain ⟨-, x, hx, rfl⟩ := bx_nums hk; rw [Nat.sub_zero] at hx
    rw [Mem.β_of hx]
    exact (hm.box _ _ hx).1.plain (hpl' _ _ hx)
  · obtain ⟨-, x, hx, rfl⟩ := bx_nums hk; rw [Nat.sub_zero] at hx
    obtain ⟨-, y, hy, rfl⟩ := bx_nums hl; rw [Nat.sub_zero] at hy
    rw [Mem.β_of hx, Mem.β_of hy]
    exact hm.inj _ _ _ _ hx hy hne
  · obtain ⟨-, x, hx, rfl⟩ := bx_nums hk; rw [Nat.sub_zero] at hx
    exact (List.getElem?_eq_some_iff.1 hx).1
  · obtain ⟨-, x, hx, rfl⟩ := bx_nums hk; rw [Nat.sub_zero] at hx
    exact ⟨Mem.β_of hx, by simp only [Mem.inc, List.mem_append, List.mem_map]; exact .inl ⟨x, List.mem_of_getElem? hx, rfl⟩⟩
  · obtain ⟨-, x, hx, rfl⟩ := bx_nums hk; rw [Nat.sub_zero] at hx
    rw [Mem.β_of hx]; exact (hm.box _ _ hx).2
  · exact hm.own _ _ (ow_numo ho).2
  · have ho' := (ow_numo ho).2
    obtain ⟨h1, h2⟩ := hm.ownB _ _ _ ho' hb
    refine ⟨h1, fun j x hj => ?_, .inl ?_⟩
    · obtain ⟨-, y, hy, rfl⟩ := bx_nums hj; rw [Nat.sub_zero] at hy
      rw [Mem.β_of hy]; exact h2 _ _ hy
    · simp only [Mem.inc, List.mem_append, List.mem_filterMap]
      exact .inr ⟨o, List.mem_of_getElem? ho', hb⟩
  · exact hm.ownI _ _ _ _ _ (ow_numo ho).2 (ow_numo hp).2 (by simpa using hne)

def takeB (boxes : List (Nat × Box)) : Nat → Nat → Option (List (Nat × BoxB))
  | _, 0 => some []
  | k, n + 1 => match bx k boxes with
    | some ⟨some b, x⟩ => if x.plain then match takeB boxes (k + 1) n with
        | some r => some ((b, x) :: r)
        | none => none
      else none
    | _ => none

def takeO (owns : List (Nat × Own)) : Nat → Nat → Option (List Own)
  | _, 0 => some []
  | k, n + 1 => match ow k owns with
    | some o => match takeO owns (k + 1) n with
        | some r => some (o :: r)
        | none => none
    | _ => none

theorem takeB_ok {boxes : List (Nat × Box)} : ∀ {n k : Nat} {l : List (Nat × BoxB)}, takeB boxes k n = some l → ∀ (j : Nat) (x : Nat × BoxB), l[j]? = some x → bx (k + j) boxes = some ⟨some x.1, x.2⟩ ∧ x.2.plain = true := by
  intro n
  induction n with
  | zero => intro k l h j x hx; simp only [takeB, Option.some.injEq] at h; subst h; simp at hx
  | succ n ih =>
    intro k l h j x hx
    simp only [takeB] at h
    split at h
    · rename_i b y hb
      split at h
      · rename_i hp
        split at h
        · rename_i r hr
          simp only [Option.some.injEq] at h; subst h
          cases j with
          | zero => simp at hx; subst hx; exact ⟨hb, hp⟩
          | succ j =>
            have := ih hr j x (by simpa using hx)
            rw [show k + (j + 1) = k + 1 + j by omega]; exact this
        · simp at h
      · simp at h
    · simp at h

theorem takeO_ok {owns : List (Nat × Own)} : ∀ {n k : Nat} {l : List Own}, takeO owns k n = some l → ∀ (j : Nat) (x : Own), l[j]? = some x → ow (k + j) owns = some x := by
  intro n
  induction n with
  | zero => intro k l h j x hx; simp only [takeO, Option.some.injEq] at h; subst h; simp at hx
  | succ n ih =>
    intro k l h j x hx
    simp only [takeO] at h
    split at h
    · rename_i o ho
      split at h
      · rename_i r hr
        simp only [Option.some.injEq] at h; subst h
        cases j with
        | zero => simp at hx; subst hx; exact ho
        | succ j =>
          have := ih hr j x (by simpa using hx)
          rw [show k + (j + 1) = k + 1 + j by omega]; exact this
      · simp at h
    · simp at h

/-- What the call leaves. -/
theorem Sim.mend {hE : GH} {w0 : World} {m m' : Mem} {n : Nat} {s : S} {h : GH} {β : Nat → Nat} {w : World} {tmps : Array Value} (hS : Sim hE w0 m.inc n s h β w tmps) {nb no : Nat} (hb : takeB s.boxes 0 nb = some m'.bs) (ho : takeO s.owns 0 no = some m'.os) (hsame : m'.bs.map (·.1) = m.bs.map (·.1))
    : Mend hE w0 m h w m' := by
  have hB : ∀ (k : Nat) (x : Nat × BoxB), m'.bs[k]? = some x → bx k s.boxes = some ⟨some x.1, x.2⟩ ∧ x.2.plain = true := fun k x hx => by simpa using takeB_ok hb k x hx
  have hO : ∀ (k : Nat) (x : Own), m'.os[k]? = some x → ow k s.owns = some x := fun k x hx => by simpa using takeO_ok ho k x hx
  have hβ : ∀ (k : Nat) (x : Nat × BoxB), m'.bs[k]? = some x → β k = x.1 := fun k x hx => (hS.fresh k _ (hB k x hx).1).1
  refine ⟨⟨fun k x hx => ?_, fun k l x y hx hy hne => ?_, fun k o hk => hS.own _ _ (hO k o hk), fun k o b hk hb => ?_, fun k l o p b hk hl => hS.ownI k l o p b (hO k o hk) (hO l p hl)⟩, hsame, hS.frame, hS.gle, fun b hb hn => hS.gold b hb hn, hS.sub, fun k o b hk hb => (hS.ownB k o b (hO k o hk) hb).2.2⟩
  · obtain ⟨h1, h2⟩ := hB k x hx
    rw [← hβ k x hx]
    exact ⟨(hS.box k _ h1).plain h2, hS.gno k _ h1⟩
  · rw [← hβ k x hx, ← hβ l y hy]
    exact hS.inj k l _ _ (hB k x hx).1 (hB l y hy).1 hne
  · obtain ⟨h1, h2, -⟩ := hS.ownB k o b (hO k o hk) hb
    exact ⟨h1, fun j x hj => by rw [← hβ j x hj]; exact h2 j _ (hB j x hj).1⟩

/-- **The way out**, with what has become of the memory handed in. -/
theorem G.retM {C : Ctx} {h : GH} {c : Cfg} {fn : Func} {rs : Array ResultVar} (m : Mem) (hf : C.P.funcs[C.f]? = some fn) (hrs : fn.results = rs) (v : Value) (hv : retVal C.P c rs.toList = some v) (hinc : C.inc = m.inc) (m' : Mem) {nb no : Nat}
    (hb : takeB c.s.boxes 0 nb = some m'.bs) (ho : takeO c.s.owns 0 no = some m'.os) (hsame : m'.bs.map (·.1) = m.bs.map (·.1))
    (H : ∀ w', Mend C.hE C.w0 m h w' m' → C.R (.returned v) w') : G C h c := by
  intro β w tmps hS
  have hg : Mend C.hE C.w0 m h w m' := by
    rw [hinc] at hS
    exact hS.mend hb ho hsame
  obtain ⟨todo, s⟩ := c
  subst hrs
  unfold retVal at hv
  simp only at hv
  split at hv
  · obtain ⟨vs, h1, rfl⟩ := map_some hv
    exact Reach.ret hf (results_of (resVals_ok hS _ _ h1)) (H w hg)
  · obtain ⟨vs, h1, rfl⟩ := map_some hv
    exact Reach.fall hf (results_of (resVals_ok hS _ _ h1)) (H w hg)
  · simp at hv

/-! ### The caller's side -/

/-- What is known after a call that wrote blocks inc' at most. -/
theorem Sim.after {hE : GH} {w0 : World} {inc : List Nat} {n : Nat} {s : S} {h : GH} {β : Nat → Nat} {w : World} {tmps : Array Value} (hS : Sim hE w0 inc n s h β w tmps) {s' : S} {h' : GH} {w' : World} {inc' : List Nat}
    (hsl : s'.slots = s.slots) (hnb : s'.nb = s.nb) (hf : Frm inc' w w') (hinc : ∀ b ∈ inc', h b = none ∧ (b ∈ inc ∨ w0.heap.size ≤ b))
    (hbox : ∀ k b, bx k s'.boxes = some b → ∃ b0, bx k s.boxes = some b0 ∧ b0.inc = b.inc ∧ BoxOk s.nb β w' (β k) b.body ∧ h' (β k) = none)
    (hown : ∀ k o, ow k s'.owns = some o → w'.ownsRow 0 o.e o.sz o.v o.n o.xs ∧ ∀ g, o.v.ownBlock = some g → h' g = none ∧ (∀ j x, bx j s.boxes = some x → β j ≠ g) ∧ (g ∈ inc ∨ w0.heap.size ≤ g))
    (hownI : ∀ k l o p b, ow k s'.owns = some o → ow l s'.owns = some p → k ≠ l → o.v.ownBlock = some b → p.v.ownBlock ≠ some b)
    (hle : GLe h h') (hold : ∀ b, b < w.heap.size → b ∉ inc' → h' b = h b) (hsub : Sub h' w') : Sim hE w0 inc n s' h' β w' tmps where
  size := hS.size
  slots t := by rw [hsl, hnb]; exact hS.slots t
  box k b hb := by obtain ⟨b0, -, -, h3, -⟩ := hbox k b hb; rw [hnb]; exact h3
  inj k l b c hb hc hne := by
    obtain ⟨b0, h1, -⟩ := hbox k b hb
    obtain ⟨c0, h2, -⟩ := hbox l c hc
    exact hS.inj k l b0 c0 h1 h2 hne
  keys k b hb := by obtain ⟨b0, h1, -⟩ := hbox k b hb; rw [hnb]; exact hS.keys k b0 h1
  fresh k b hb := by
    obtain ⟨b0, h1, h2, -⟩ := hbox k b hb
    have := hS.fresh k b0 h1
    rw [h2] at this; exact this
  ghost := hsub
  gno k b hb := by obtain ⟨b0, -, -, -, h4⟩ := hbox k b hb; exact h4
  frame := by
    refine ⟨hf.os.trans hS.frame.os, hf.tape.trans hS.frame.tape, hf.output.trans hS.frame.output, Nat.le_trans hS.frame.size hf.size, fun b hb hn => ?_⟩
    have hlt := Nat.lt_of_lt_of_le hb hS.frame.size
    rw [hf.block b hlt fun hm => ?_, hS.frame.block b hb hn]
    rcases (hinc b hm).2 with h1 | h1
    · exact hn h1
    · omega
  gle b o hb := hle b o (hS.gle b o hb)
  gold b hb hn := by
    have hlt := Nat.lt_of_lt_of_le hb hS.frame.size
    rw [hold b hlt fun hm => ?_, hS.gold b hb hn]
    rcases (hinc b hm).2 with h1 | h1
    · exact hn h1
    · omega
  own k o ho := (hown k o ho).1
  ownB k o b ho hb := by
    obtain ⟨h1, h2, h3⟩ := (hown k o ho).2 b hb
    refine ⟨h1, fun j x hj => ?_, h3⟩
    obtain ⟨b0, h4, -⟩ := hbox j x hj
    exact h2 j b0 h4
  ownI := hownI

def pickB (boxes : List (Nat × Box)) : List Nat → Option (List BoxB)
  | [] => some []
  | k :: ks => match bx k boxes with
    | some b => if b.body.plain then match pickB boxes ks with
        | some r => some (b.body :: r)
        | none => none
      else none
    | none => none

def pickO (owns : List (Nat × Own)) : List Nat → Option (List Own)
  | [] => some []
  | k :: ks => match ow k owns with
    | some o => match pickO owns ks with
        | some r => some (o :: r)
        | none => none
    | none => none

theorem pickB_ok {boxes : List (Nat × Box)} : ∀ {ks : List Nat} {l : List BoxB}, pickB boxes ks = some l → l.length = ks.length ∧ ∀ (j : Nat) (x : BoxB), l[j]? = some x → ∃ k b, ks[j]? = some k ∧ bx k boxes = some b ∧ b.body = x ∧ x.plain = true := by
  intro ks
  induction ks with
  | nil => intro l h; simp only [pickB, Option.some.injEq] at h; subst h; exact ⟨rfl, fun j x hx => by simp at hx⟩
  | cons k ks ih =>
    intro l h
    simp only [pickB] at h
    split at h
    · rename_i b hb
      split at h
      · rename_i hp
        split at h
        · rename_i r hr
          simp only [Option.some.injEq] at h; subst h
          obtain ⟨h1, h2⟩ := ih hr
          refine ⟨by simp [h1], fun j x hx => ?_⟩
          cases j with
          | zero => simp at hx; subst hx; exact ⟨k, b, by simp, hb, rfl, hp⟩
          | succ j => simpa using h2 j x (by simpa using hx)
        · simp at h
      · simp at h
    · simp at h

theorem pickO_ok {owns : List (Nat × Own)} : ∀ {ks : List Nat} {l : List Own}, pickO owns ks = some l → l.length = ks.length ∧ ∀ (j : Nat) (x : Own), l[j]? = some x → ∃ k, ks[j]? = some k ∧ ow k owns = some x := by
  intro ks
  induction ks with
  | nil => intro l h; simp only [pickO, Option.some.injEq] at h; subst h; exact ⟨rfl, fun j x hx => by simp at hx⟩
  | cons k ks ih =>
    intro l h
    simp only [pickO] at h
    split at h
    · rename_i o ho
      split at h
      · rename_i r hr
        simp only [Option.some.injEq] at h; subst h
        obtain ⟨h1, h2⟩ := ih hr
        refine ⟨by simp [h1], fun j x hx => ?_⟩
        cases j with
        | zero => simp at hx; subst hx; exact ⟨k, by simp, ho⟩
        | succ j => simpa using h2 j x (by simpa using hx)
      · simp at h
    · simp at h

def putBs : List Nat → List BoxB → List (Nat × Box) → List (Nat × Box)
  | k :: ks, x :: xs, boxes => match bx k boxes with
    | some b => (k, ⟨b.inc, x⟩) :: putBs ks xs boxes
    | none => putBs ks xs boxes
  | _, _, boxes => boxes

def putOs : List Nat → List Own → List (Nat × Own) → List (Nat × Own)
  | k :: ks, x :: xs, owns => (k, x) :: putOs ks xs owns
  | _, _, owns => owns

def putMem (s : S) (ks kos : List Nat) (bs : List BoxB) (os : List Own) : S := { s with boxes := putBs ks bs s.boxes, owns := putOs kos os s.owns }

theorem bx_putBs : ∀ {ks : List Nat} {xs : List BoxB} {boxes : List (Nat × Box)} {k : Nat} {b : Box}, xs.length = ks.length → bx k (putBs ks xs boxes) = some b →
    (∃ (j : Nat) (b0 : Box), ks[j]? = some k ∧ xs[j]? = some b.body ∧ bx k boxes = some b0 ∧ b0.inc = b.inc) ∨ (bx k boxes = some b ∧ ∀ j : Nat, ks[j]? ≠ some k) := by
  intro ks
  induction ks with
  | nil => intro xs boxes k b _ h; right; cases xs <;> exact ⟨by simpa [putBs] using h, by simp⟩
  | cons k0 ks ih =>
    intro xs boxes k b hl h
    cases xs with
    | nil => simp at hl
    | cons x xs =>
      simp only [putBs] at h
      cases hk0 : bx k0 boxes with
      | none =>
        rw [hk0] at h
        simp only at h
        rcases ih (by simpa using hl) h with ⟨j, b0, h1, h2, h3, h4⟩ | ⟨h1, h2⟩
        · exact .inl ⟨j + 1, b0, by simpa using h1, by simpa using h2, h3, h4⟩
        · refine .inr ⟨h1, fun j hj => ?_⟩
          cases j with
          | zero => simp at hj; subst hj; rw [hk0] at h1; cases h1
          | succ j => exact h2 j (by simpa using hj)
      | some b0 =>
        rw [hk0] at h
        simp only at h
        rw [bx_cons] at h
        split at h
        · rename_i e; subst e
          simp only [Option.some.injEq] at h; subst h
          exact .inl ⟨0, b0, by simp, by simp, hk0, rfl⟩
        · rename_i e
          rcases ih (by simpa using hl) h with ⟨j, b0, h1, h2, h3, h4⟩ | ⟨h1, h2⟩
          · exact .inl ⟨j + 1, b0, by simpa using h1, by simpa using h2, h3, h4⟩
          · refine .inr ⟨h1, fun j hj => ?_⟩
            cases j with
            | zero => simp at hj; exact e hj
            | succ j => exact h2 j (by simpa using hj)

theorem ow_putOs : ∀ {ks : List Nat} {xs : List Own} {owns : List (Nat × Own)} {k : Nat} {o : Own}, xs.length = ks.length → ow k (putOs ks xs owns) = some o →
    (∃ j : Nat, ks[j]? = some k ∧ xs[j]? = some o) ∨ (ow k owns = some o ∧ ∀ j : Nat, ks[j]? ≠ some k) := by
  intro ks
  induction ks with
  | nil => intro xs owns k b _ h; right; cases xs <;> exact ⟨by simpa [putOs] using h, by simp⟩
  | cons k0 ks ih =>
    intro xs owns k b hl h
    cases xs with
    | nil => simp at hl
    | cons x xs =>
      simp only [putOs] at h
      rw [ow_cons] at h
      split at h
      · rename_i e; subst e
        simp only [Option.some.injEq] at h; subst h
        exact .inl ⟨0, by simp, by simp⟩
      · rename_i e
        rcases ih (by simpa using hl) h with ⟨j, h1, h2⟩ | ⟨h1, h2⟩
        · exact .inl ⟨j + 1, by simpa using h1, by simpa using h2⟩
        · refine .inr ⟨h1, fun j hj => ?_⟩
          cases j with
          | zero => simp at hj; exact e hj
          | succ j => exact h2 j (by simpa using hj)

def nodupB : List Nat → Bool
  | [] => true
  | k :: ks => !(ks.any (Nat.beq k)) && nodupB ks

theorem nodupB_ok : ∀ {ks : List Nat}, nodupB ks = true → ∀ (i j : Nat) (k : Nat), ks[i]? = some k → ks[j]? = some k → i = j := by
  intro ks
  induction ks with
  | nil => intro _ i j k h; simp at h
  | cons x ks ih =>
    intro h i j k hi hj
    simp only [nodupB, Bool.and_eq_true, Bool.not_eq_true', List.any_eq_false] at h
    cases i with
    | zero => cases j with
      | zero => rfl
      | succ j =>
        simp at hi hj; subst hi
        exact absurd (by simp) (h.1 _ (List.mem_of_getElem? hj))
    | succ i => cases j with
      | zero =>
        simp at hi hj; subst hj
        exact absurd (by simp) (h.1 _ (List.mem_of_getElem? hi))
      | succ j => rw [ih h.2 i j k (by simpa using hi) (by simpa using hj)]

/-- What is handed to a call: the blocks of the keys ks with what they hold, the own slices of the keys kos. -/
def memOf (β : Nat → Nat) (ks : List Nat) (bs : List BoxB) (os : List Own) : Mem := ⟨(ks.map β).zip bs, os⟩

theorem memOf_get {β : Nat → Nat} {ks : List Nat} {bs : List BoxB} {os : List Own} {j : Nat} {x : Nat × BoxB} : (memOf β ks bs os).bs[j]? = some x ↔ ∃ k, ks[j]? = some k ∧ x.1 = β k ∧ bs[j]? = some x.2 := by
  simp only [memOf, List.getElem?_zip_eq_some, List.getElem?_map, Option.map_eq_some_iff]
  constructor
  · rintro ⟨⟨k, h1, h2⟩, h3⟩; exact ⟨k, h1, h2.symm, h3⟩
  · rintro ⟨k, h1, h2, h3⟩; exact ⟨⟨k, h1, h2.symm⟩, h3⟩

section hand
variable {hE : GH} {w0 : World} {inc : List Nat} {n : Nat} {s : S} {h : GH} {β : Nat → Nat} {w : World} {tmps : Array Value}

/-- Keys that are not among ks, told to the callee as memory that nobody writes. -/
def roH (h : GH) (β : Nat → Nat) (w : World) (ro : List Nat) : GH := fun b => if ro.any (fun k => Nat.beq (β k) b) then w.heap[b]? else h b

theorem roH_nil : roH h β w [] = h := by funext b; simp [roH]

theorem roH_ro {ro : List Nat} {k : Nat} (hk : k ∈ ro) : roH h β w ro (β k) = w.heap[β k]? := by
  unfold roH; rw [if_pos]; exact List.any_eq_true.2 ⟨k, hk, by simp⟩

theorem roH_no {ro : List Nat} {b : Nat} (hb : ∀ k ∈ ro, β k ≠ b) : roH h β w ro b = h b := by
  unfold roH; rw [if_neg]
  intro hh
  obtain ⟨k, hk, he⟩ := List.any_eq_true.1 hh
  exact hb k hk (Nat.eq_of_beq_eq_true he)

theorem Sim.roSub (hS : Sim hE w0 inc n s h β w tmps) (ro : List Nat) : Sub (roH h β w ro) w := by
  intro b o hb
  unfold roH at hb
  split at hb
  · exact hb
  · exact hS.ghost b o hb

theorem Sim.roLe (hS : Sim hE w0 inc n s h β w tmps) (ro : List Nat) : GLe h (roH h β w ro) := by
  intro b o hb
  unfold roH
  split
  · exact hS.ghost b o hb
  · exact hb

def keysIn (ro : List Nat) (boxes : List (Nat × Box)) : Bool := ro.all fun k => (bx k boxes).isSome
def disj (ro ks : List Nat) : Bool := ro.all fun k => !(ks.any (Nat.beq k))

theorem disj_ok {ro ks : List Nat} (h : disj ro ks = true) {k : Nat} (h1 : k ∈ ro) (h2 : k ∈ ks) : False := by
  unfold disj at h
  have := List.all_eq_true.1 h k h1
  simp only [Bool.not_eq_true', List.any_eq_false] at this
  exact this k h2 (by simp)

theorem Sim.memOk (hS : Sim hE w0 inc n s h β w tmps) {ks kos ro : List Nat} {bs : List BoxB} {os : List Own} (hb : pickB s.boxes ks = some bs) (ho : pickO s.owns kos = some os) (hk : nodupB ks = true) (hko : nodupB kos = true) (hro : keysIn ro s.boxes = true) (hd : disj ro ks = true) :
    MemOk (roH h β w ro) w (memOf β ks bs os) := by
  obtain ⟨hl, hB⟩ := pickB_ok hb
  obtain ⟨hlo, hO⟩ := pickO_ok ho
  have hroB : ∀ r ∈ ro, ∃ b, bx r s.boxes = some b := fun r hr => by
    have := List.all_eq_true.1 hro r hr
    exact Option.isSome_iff_exists.1 this
  refine ⟨fun j x hx => ?_, fun i j x y hx hy hne => ?_, fun k o hk => ?_, fun k o b hk hb => ?_, fun k l o p b hk hl hne => ?_⟩
  · obtain ⟨k, h1, h2, h3⟩ := memOf_get.1 hx
    obtain ⟨k', b, h4, h5, h6, h7⟩ := hB j x.2 h3
    rw [h1] at h4; cases h4
    refine ⟨by rw [h2, ← h6]; exact (hS.box k b h5).plain (by rw [h6]; exact h7), ?_⟩
    rw [h2, roH_no fun r hr => ?_]
    · exact hS.gno k b h5
    · obtain ⟨b', hb'⟩ := hroB r hr
      exact hS.inj r k b' b hb' h5 fun e => disj_ok hd hr (e ▸ List.mem_of_getElem? h1)
  · obtain ⟨k, h1, h2, h3⟩ := memOf_get.1 hx
    obtain ⟨l, h1', h2', h3'⟩ := memOf_get.1 hy
    obtain ⟨k', b, h4, h5, -⟩ := hB i x.2 h3
    obtain ⟨l', c, h6, h7, -⟩ := hB j y.2 h3'
    rw [h1] at h4; cases h4
    rw [h1'] at h6; cases h6
    rw [h2, h2']
    exact hS.inj k l b c h5 h7 fun e => hne (nodupB_ok hk i j k h1 (e ▸ h1'))
  · obtain ⟨k', -, h2⟩ := hO k o hk
    exact hS.own _ _ h2
  · obtain ⟨k', -, h2⟩ := hO k o hk
    obtain ⟨h3, h4, -⟩ := hS.ownB _ _ _ h2 hb
    refine ⟨?_, fun j x hx => ?_⟩
    · rw [roH_no fun r hr => ?_]
      · exact h3
      · obtain ⟨b', hb'⟩ := hroB r hr
        exact h4 r b' hb'
    · obtain ⟨k, h1, h2, h3⟩ := memOf_get.1 hx
      obtain ⟨k', c, h5, h6, -⟩ := hB j x.2 h3
      rw [h1] at h5; cases h5
      rw [h2]; exact h4 k c h6
  · obtain ⟨k', h1, h2⟩ := hO k o hk
    obtain ⟨l', h3, h4⟩ := hO l p hl
    exact hS.ownI k' l' o p b h2 h4 fun e => hne (nodupB_ok hko k l k' h1 (e ▸ h3))

theorem memInc {ks kos : List Nat} {bs : List BoxB} {os : List Own} (hb : pickB s.boxes ks = some bs) (ho : pickO s.owns kos = some os) {b : Nat} (hm : b ∈ (memOf β ks bs os).inc) :
    (∃ k x, k ∈ ks ∧ bx k s.boxes = some x ∧ β k = b) ∨ ∃ k o, k ∈ kos ∧ ow k s.owns = some o ∧ o.v.ownBlock = some b := by
  obtain ⟨hl, hB⟩ := pickB_ok hb
  obtain ⟨hlo, hO⟩ := pickO_ok ho
  simp only [Mem.inc, List.mem_append, List.mem_map, List.mem_filterMap] at hm
  rcases hm with ⟨x, hx, rfl⟩ | ⟨o, ho', hb'⟩
  · obtain ⟨j, hj⟩ := List.getElem?_of_mem hx
    obtain ⟨k, h1, h2, h3⟩ := memOf_get.1 hj
    obtain ⟨k', c, h5, h6, -⟩ := hB j x.2 h3
    rw [h1] at h5; cases h5
    exact .inl ⟨k, c, List.mem_of_getElem? h1, h6, h2.symm⟩
  · obtain ⟨j, hj⟩ := List.getElem?_of_mem ho'
    obtain ⟨k, h1, h2⟩ := hO j o hj
    exact .inr ⟨k, o, List.mem_of_getElem? h1, h2, hb'⟩

/-- Without what lay in those blocks. -/
def hideH (β : Nat → Nat) (ro : List Nat) (hc : GH) : GH := fun b => if ro.any (fun k => Nat.beq (β k) b) then none else hc b

theorem hideH_nil {hc : GH} : hideH β [] hc = hc := by funext b; simp [hideH]

theorem Sim.hideLe (hS : Sim hE w0 inc n s h β w tmps) {ro : List Nat} (hro : keysIn ro s.boxes = true) {hc : GH} (hle : GLe (roH h β w ro) hc) : GLe h (hideH β ro hc) := by
  intro b o hbo
  have hne : ¬ (ro.any fun k => Nat.beq (β k) b) = true := by
    intro hh
    obtain ⟨k, hk1, hk2⟩ := List.any_eq_true.1 hh
    obtain ⟨c, hc⟩ := Option.isSome_iff_exists.1 (List.all_eq_true.1 hro k hk1)
    have := hS.gno k c hc
    rw [Nat.eq_of_beq_eq_true hk2, hbo] at this; cases this
  unfold hideH
  rw [if_neg hne]
  exact hle b o (hS.roLe ro b o hbo)

/-- What the caller knows after such a call. -/
theorem Sim.mended (hS : Sim hE w0 inc n s h β w tmps) {ks kos ro : List Nat} {bs : List BoxB} {os : List Own} (hb : pickB s.boxes ks = some bs) (ho : pickO s.owns kos = some os) (hro : keysIn ro s.boxes = true) (hd : disj ro ks = true)
    {hc' : GH} {w' : World} {bs' : List BoxB} {os' : List Own} (hlb : bs'.length = ks.length) (hlo : os'.length = kos.length) (hm : Mend (roH h β w ro) w (memOf β ks bs os) hc' w' (memOf β ks bs' os')) :
    Sim hE w0 inc n (putMem s ks kos bs' os') (hideH β ro hc') β w' tmps := by
  unfold hideH
  have hl := (pickB_ok hb).1
  have hinc := @memInc s β ks kos bs os hb ho
  have hroB : ∀ r ∈ ro, ∃ b, bx r s.boxes = some b := fun r hr => by
    have := List.all_eq_true.1 hro r hr
    exact Option.isSome_iff_exists.1 this
  have hnone : ∀ b, hc' b = none → (if ro.any (fun k => Nat.beq (β k) b) then none else hc' b) = none := fun b hb => by split <;> simp [hb]
  have hroinc : ∀ k ∈ ro, β k ∉ (memOf β ks bs os).inc := by
    intro k hkr hmem
    obtain ⟨c, hc⟩ := hroB k hkr
    rcases hinc hmem with ⟨k', x, h1, h2, h3⟩ | ⟨k', o, h1, h2, h3⟩
    · exact hS.inj k' k x c h2 hc (fun e => disj_ok hd hkr (e ▸ h1)) h3
    · exact (hS.ownB k' o _ h2 h3).2.1 k c hc rfl
  refine hS.after (inc' := (memOf β ks bs os).inc) rfl rfl hm.frm (fun b hb => ?_) (fun k b hkb => ?_) (fun k o hko' => ?_) (fun k l o p b h1 h2 hne hob hpb => ?_) (fun b o hbo => ?_) (fun b hlt hn => ?_) (fun b o hbo => ?_)
  · rcases hinc hb with ⟨k, x, h1, h2, rfl⟩ | ⟨k, o, h1, h2, h3⟩
    · refine ⟨hS.gno k x h2, ?_⟩
      have := hS.fresh k x h2
      cases hx : x.inc with
      | none => rw [hx] at this; exact .inr this
      | some m => rw [hx] at this; exact .inl (this.1 ▸ this.2)
    · obtain ⟨h4, -, h5⟩ := hS.ownB k o b h2 h3
      exact ⟨h4, h5⟩
  · rcases bx_putBs hlb hkb with ⟨j, b0, h1, h2, h3, h4⟩ | ⟨h1, h2⟩
    · obtain ⟨h5, h6⟩ := hm.ok.box j (β k, b.body) (memOf_get.2 ⟨k, h1, rfl, h2⟩)
      refine ⟨b0, h3, h4, ?_, hnone _ h6⟩
      cases hbb : b.body with
      | obj o => rw [hbb] at h5; exact h5
      | lit T cs =>
        rw [hbb] at h5
        obtain ⟨arr, h7, h8⟩ := h5
        refine ⟨arr, h7, ?_⟩
        exact (show ∀ {cs : List Cell} {vs : List Value}, CellsOk 0 (fun _ => 0) cs vs → CellsOk s.nb β cs vs from fun {cs} => by
          induction cs with
          | nil => intro vs h; cases vs <;> simp_all [CellsOk]
          | cons c cs ih =>
            intro vs h
            cases vs with
            | nil => simp [CellsOk] at h
            | cons v vs =>
              refine ⟨?_, ih h.2⟩
              have h0 := h.1
              cases c <;> simp only [CellOk] at h0 ⊢ <;> first | exact h0 | omega) h8
    · have hkn : β k ∉ (memOf β ks bs os).inc := by
        intro hmem
        rcases hinc hmem with ⟨k', x, h3, h4, h5⟩ | ⟨k', o, h3, h4, h5⟩
        · have : k' = k := by
            by_cases e : k' = k
            · exact e
            · exact absurd h5 (hS.inj k' k x b h4 h1 e)
          subst this
          obtain ⟨j, hj⟩ := List.getElem?_of_mem h3
          exact h2 j hj
        · exact (hS.ownB k' o _ h4 h5).2.1 k b h1 rfl
      have hlt := (hS.box k b h1).lt
      refine ⟨b, h1, rfl, (hS.box k b h1).of_block (hm.frm.block _ hlt hkn), ?_⟩
      by_cases hr : (ro.any fun x => Nat.beq (β x) (β k)) = true
      · simp only [if_pos hr]
      · simp only [if_neg hr]
        rw [hm.old _ hlt hkn]
        unfold roH; rw [if_neg hr]; exact hS.gno k b h1
  · rcases ow_putOs hlo hko' with ⟨j, h1, h2⟩ | ⟨h1, h2⟩
    · refine ⟨hm.ok.own j o h2, fun g hg => ?_⟩
      obtain ⟨h3, h4⟩ := hm.ok.ownB j o g h2 hg
      refine ⟨hnone _ h3, ?_⟩
      rcases hm.fresh j o g h2 hg with h5 | h5
      · rcases hinc h5 with ⟨k', x, h6, h7, h8⟩ | ⟨k', p, h6, h7, h8⟩
        · exfalso
          obtain ⟨i, hi⟩ := List.getElem?_of_mem h6
          have hi' : i < bs'.length := by rw [hlb]; exact (List.getElem?_eq_some_iff.1 hi).1
          exact h4 i (β k', bs'[i]) (memOf_get.2 ⟨k', hi, rfl, by simp [hi']⟩) h8
        · obtain ⟨h9, h10, h11⟩ := hS.ownB k' p g h7 h8
          exact ⟨h10, h11⟩
      · refine ⟨fun l x hl e => ?_, .inr (Nat.le_trans hS.frame.size h5)⟩
        have := (hS.box l x hl).lt
        omega
    · have hob := hS.own k o h1
      have hkn : ∀ g, o.v.ownBlock = some g → g ∉ (memOf β ks bs os).inc := by
        intro g hg hmem
        rcases hinc hmem with ⟨k', x, h3, h4, h5⟩ | ⟨k', p, h3, h4, h5⟩
        · exact (hS.ownB k o g h1 hg).2.1 k' x h4 h5
        · have : k' = k := by
            by_cases e : k' = k
            · exact e
            · exact absurd hg (hS.ownI k' k p o g h4 h1 e h5)
          subst this
          obtain ⟨j, hj⟩ := List.getElem?_of_mem h3
          exact h2 j hj
      refine ⟨ownsRow_of_block hob fun g hg => hm.frm.block g (ownsRow_lt hob hg) (hkn g hg), fun g hg => ?_⟩
      obtain ⟨h3, h4, h5⟩ := hS.ownB k o g h1 hg
      refine ⟨hnone _ ?_, h4, h5⟩
      rw [hm.old g (ownsRow_lt hob hg) (hkn g hg), roH_no fun r hr => ?_]
      · exact h3
      · obtain ⟨c, hc⟩ := hroB r hr
        exact h4 r c hc
  · rcases ow_putOs hlo h1 with ⟨i, h3, h4⟩ | ⟨h3, h4⟩
    · rcases ow_putOs hlo h2 with ⟨j, h5, h6⟩ | ⟨h5, h6⟩
      · exact hm.ok.ownI i j o p b h4 h6 (fun e => hne (by subst e; rw [h3] at h5; exact Option.some.inj h5)) hob hpb
      · rcases hm.fresh i o b h4 hob with h7 | h7
        · rcases hinc h7 with ⟨k', x, h8, h9, h10⟩ | ⟨k', q, h8, h9, h10⟩
          · exact (hS.ownB l p b h5 hpb).2.1 k' x h9 h10
          · by_cases e : k' = l
            · subst e
              obtain ⟨j, hj⟩ := List.getElem?_of_mem h8
              exact h6 j hj
            · exact hS.ownI k' l q p b h9 h5 e h10 hpb
        · have := ownsRow_lt (hS.own l p h5) hpb
          omega
    · rcases ow_putOs hlo h2 with ⟨j, h5, h6⟩ | ⟨h5, h6⟩
      · rcases hm.fresh j p b h6 hpb with h7 | h7
        · rcases hinc h7 with ⟨k', x, h8, h9, h10⟩ | ⟨k', q, h8, h9, h10⟩
          · exact (hS.ownB k o b h3 hob).2.1 k' x h9 h10
          · by_cases e : k' = k
            · subst e
              obtain ⟨j, hj⟩ := List.getElem?_of_mem h8
              exact h4 j hj
            · exact hS.ownI k' k q o b h9 h3 e h10 hob
        · have := ownsRow_lt (hS.own k o h3) hob
          omega
      · exact hS.ownI k l o p b h3 h5 hne hob hpb
  · have hne : ¬ (ro.any fun k => Nat.beq (β k) b) = true := by
      intro hh
      obtain ⟨k, hk1, hk2⟩ := List.any_eq_true.1 hh
      obtain ⟨c, hc⟩ := hroB k hk1
      have := hS.gno k c hc
      rw [Nat.eq_of_beq_eq_true hk2, hbo] at this; cases this
    simp only [if_neg hne]
    exact hm.le b o (hS.roLe ro b o hbo)
  · by_cases hr : (ro.any fun k => Nat.beq (β k) b) = true
    · simp only [if_pos hr]
      obtain ⟨k, hk1, hk2⟩ := List.any_eq_true.1 hr
      obtain ⟨c, hc⟩ := hroB k hk1
      have := hS.gno k c hc
      rw [Nat.eq_of_beq_eq_true hk2] at this; exact this.symm
    · simp only [if_neg hr]
      rw [hm.old b hlt hn]
      unfold roH; rw [if_neg hr]
  · split at hbo
    · cases hbo
    · exact hm.sub b o hbo

theorem bx_putBs_some {ks : List Nat} : ∀ {xs : List BoxB} {boxes : List (Nat × Box)} {k : Nat} {b : Box}, bx k boxes = some b → ∃ b', bx k (putBs ks xs boxes) = some b' := by
  induction ks with
  | nil => intro xs boxes k b h; cases xs <;> exact ⟨b, by simpa [putBs] using h⟩
  | cons k0 ks ih =>
    intro xs boxes k b h
    cases xs with
    | nil => exact ⟨b, by simpa [putBs] using h⟩
    | cons x xs =>
      simp only [putBs]
      split
      · rw [bx_cons]
        split
        · exact ⟨_, rfl⟩
        · exact ih h
      · exact ih h
end hand

def handOk (s : S) (ks kos ro : List Nat) : Bool := nodupB ks && nodupB kos && keysIn ro s.boxes && disj ro ks

/-- **A call that is handed memory to write**: the blocks ks, the own slices kos; the blocks ro it may only read. -/
theorem G.callM {C : Ctx} {h : GH} {c : Cfg} {f : FuncId} {svs : List SV1} {d : Option Nat} (ks kos ro : List Nat) (hc : callView c = some ⟨f, svs, d, none⟩) (he : enters C.P f = true) (hd : dstOk C.n d = true) {bs : List BoxB} {os : List Own}
    (hb : pickB c.s.boxes ks = some bs) (ho : pickO c.s.owns kos = some os) (hh : handOk c.s ks kos ro = true) (Q : GH → Value → List BoxB → List Own → Prop)
    (hcall : ∀ β w tmps l, Sim C.hE C.w0 C.inc C.n c.s h β w tmps → SV1sOk c.s.nb β svs l → Sub (roH h β w ro) w → MemOk (roH h β w ro) w (memOf β ks bs os) →
      Calls C.P f l.toArray w fun e w' => ∃ v bs' os' hc', e = .returned v ∧ bs'.length = ks.length ∧ os'.length = kos.length ∧ Mend (roH h β w ro) w (memOf β ks bs os) hc' w' (memOf β ks bs' os') ∧ Q (hideH β ro hc') v bs' os')
    (hk : ∀ h' v bs' os', Q h' v bs' os' → GLe h h' → ∃ sv, (∀ N β tmps, SVOk N β tmps sv v) ∧ G C h' (afterOp (withS c (putMem c.s ks kos bs' os')) sv)) : G C h c := by
  simp only [handOk, Bool.and_eq_true] at hh
  obtain ⟨⟨⟨h1, h2⟩, h3⟩, h4⟩ := hh
  refine G.callX hc he hd fun β w tmps l hS hl => ?_
  refine (hcall β w tmps l hS hl (hS.roSub ro) (hS.memOk hb ho h1 h2 h3 h4)).mono ?_
  rintro e w' ⟨v, bs', os', hc', rfl, hlb, hlo, hm, hq⟩
  obtain ⟨sv, h5, h6⟩ := hk _ v bs' os' hq (hS.hideLe h3 hm.le)
  exact ⟨v, rfl, _, _, β, sv, hS.mended hb ho h3 h4 hlb hlo hm, fun tmps' => h5 _ _ _, h6⟩

/-- The same inside a region of open order. -/
theorem GDop.callM {C : Ctx} {h0 h : GH} {ops : Array Oper} {k : List Item} {kl : List Nat} {c : DCfg} {i : Nat} {f : FuncId} {svs : List SV1} {d : Option Nat} (ks kos ro : List Nat) (hc : callAtD ops c i = some ⟨f, svs, d, none⟩) (he : enters C.P f = true) (hd : dstOk C.n d = true) {bs : List BoxB} {os : List Own}
    (hb : pickB c.s.boxes ks = some bs) (ho : pickO c.s.owns kos = some os) (hh : handOk c.s ks kos ro = true) (hlv : liveAll kl c.s = true) (hdk : disj kl ks = true) (Q : GH → Value → List BoxB → List Own → Prop)
    (hcall : ∀ β w tmps l, Sim C.hE C.w0 C.inc C.n c.s h β w tmps → SV1sOk c.s.nb β svs l → Sub (roH h β w ro) w → MemOk (roH h β w ro) w (memOf β ks bs os) →
      Calls C.P f l.toArray w fun e w' => ∃ v bs' os' hc', e = .returned v ∧ bs'.length = ks.length ∧ os'.length = kos.length ∧ Mend (roH h β w ro) w (memOf β ks bs os) hc' w' (memOf β ks bs' os') ∧ Q (hideH β ro hc') v bs' os')
    (hk : ∀ h' v bs' os', Q h' v bs' os' → GLe h h' → ∃ sv, (∀ N β tmps, SVOk N β tmps sv v) ∧ GD C h0 h' ops k kl (afterN ops c i (putMem c.s ks kos bs' os') sv)) : GDop C h0 h ops k kl c i := by
  simp only [handOk, Bool.and_eq_true] at hh
  obtain ⟨⟨⟨h1, h2⟩, h3⟩, h4⟩ := hh
  refine GDop.callX hc he hd fun β w tmps l hS hl => ?_
  refine (hcall β w tmps l hS hl (hS.roSub ro) (hS.memOk hb ho h1 h2 h3 h4)).mono ?_
  rintro e w' ⟨v, bs', os', hc', rfl, hlb, hlo, hm, hq⟩
  have hle := hS.hideLe h3 hm.le
  obtain ⟨sv, h5, h6⟩ := hk _ v bs' os' hq hle
  refine ⟨v, rfl, _, _, β, sv, hS.mended hb ho h3 h4 hlb hlo hm, fun tmps' => h5 _ _ _, hle, fun x hx => ?_, h6⟩
  obtain ⟨b, hbx⟩ := liveAll_ok hlv x hx
  refine ⟨rfl, hm.frm.block _ (hS.box x b hbx).lt fun hmem => ?_, bx_putBs_some hbx⟩
  rcases memInc hb ho hmem with ⟨k', y, h7, h8, h9⟩ | ⟨k', o, h7, h8, h9⟩
  · exact hS.inj k' x y b h8 hbx (fun e => disj_ok hdk hx (e ▸ h7)) h9
  · exact (hS.ownB k' o _ h8 h9).2.1 x b hbx rfl
end Go.Proofs.Ytkjahaoobdbffaa
