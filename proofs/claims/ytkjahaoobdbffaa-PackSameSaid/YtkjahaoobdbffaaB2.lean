/- The base of this seat's proofs, second part: one operation as a computation on what is known, and that the machine does just that. -/
import Derived.Laws.CopyRow
import Derived.Test.YtkjahaoobdbffaaB1
namespace Go.Proofs.Ytkjahaoobdbffaa
open Go Go.RowKit

def Cell.ofV : Value → Cell
  | .int k n => .int k n
  | .bool b => .bool b
  | .string s => .str s
  | .agg _ => .any
  | .tuple _ => .any
  | .slice a n c => .sl (.slice a n c) n
  | .pointer a => .raw (.pointer a)
  | .map a => .raw (.map a)
  | .nilFunc => .raw .nilFunc
  | .func f a b => .raw (.func f a b)
  | .nilIface => .raw .nilIface
  | .iface t v => .raw (.iface t v)
  | .chan r => .raw (.chan r)
  | .float k b => .raw (.float k b)
  | .complex k a b => .raw (.complex k a b)

def cellsOfV : Value → List Cell
  | .agg arr => arr.toList.map Cell.ofV
  | v => [Cell.ofV v]

def SV1.ofV : Value → SV1
  | .agg arr => .agg (arr.toList.map Cell.ofV)
  | v => .atom (Cell.ofV v)

theorem cellOfV_ok (N : Nat) (β : Nat → Nat) (v : Value) : CellOk N β (Cell.ofV v) v := by
  cases v <;> simp [Cell.ofV, CellOk, Value.oneCell']

theorem cellsMap_ok (N : Nat) (β : Nat → Nat) (l : List Value) : CellsOk N β (l.map Cell.ofV) l := by
  induction l with
  | nil => simp [CellsOk]
  | cons v l ih => exact ⟨cellOfV_ok N β v, ih⟩

theorem cellsOfV_ok (N : Nat) (β : Nat → Nat) (v : Value) : CellsOk N β (cellsOfV v) v.cells.toList := by
  cases v <;> first | exact cellsMap_ok N β _ | (simp [cellsOfV, Value.cells, CellsOk]; exact cellOfV_ok N β _)

theorem SV1ofV_ok (N : Nat) (β : Nat → Nat) (v : Value) : SV1Ok N β (.ofV v) v := by
  cases v <;> first | exact ⟨_, rfl, cellsMap_ok N β _⟩ | (simp only [SV1.ofV, SV1Ok]; exact cellOfV_ok N β _)

/-- The cells that a known value takes. -/
def SV1.cells : SV1 → Option (List Cell)
  | .atom .any => none
  | .atom c => some [c]
  | .agg cs => some cs

theorem SV1.cells_ok {N : Nat} {β : Nat → Nat} {x : SV1} {cs : List Cell} (h : x.cells = some cs) {v : Value} (hv : SV1Ok N β x v) : CellsOk N β cs v.cells.toList := by
  cases x with
  | agg ds =>
    simp only [SV1.cells, Option.some.injEq] at h
    subst h
    obtain ⟨arr, rfl, hc⟩ := hv
    exact hc
  | atom c =>
    have hc : c ≠ .any := by rintro rfl; simp [SV1.cells] at h
    have h1 : cs = [c] := by cases c <;> simp_all [SV1.cells]
    subst h1
    have ho := CellOk.oneCell hv hc
    have : v.cells = #[v] := by cases v <;> simp_all [Value.cells, Value.oneCell']
    rw [this]
    exact ⟨hv, trivial⟩

/-- Which guards hold, where this one does. -/
def chain (s : S) : Nat → Nat → Bool → List (Nat × Bool)
  | 0, t, w => [(t, w)]
  | n + 1, t, w => (t, w) :: (match lk t s.slots with | .gd t' w' _ => chain s n t' w' | _ => [])

def hasG (t : Nat) (w : Bool) : List (Nat × Bool) → Bool
  | [] => false
  | (t', w') :: l => (Nat.beq t t' && (w == w')) || hasG t w l

def evS (s : S) (g : List (Nat × Bool)) : Operand → Option SV1
  | .tmp t => match lk t s.slots with
    | .one v => some v
    | .gd t' w v => if hasG t' w g then some v else none
    | .tup _ => none
  | .const v => some (.ofV v)
  | .func f => some (.atom (.raw (.func (.func f) #[] #[])))
  | .global _ => none

inductive Eff where
  | no
  | new (T : TypeId) (cs : List Cell)
  | upd (k : Nat) (T : TypeId) (cs : List Cell)

/-- New cells from place off on. -/
def splice (cs : List Cell) (off : Nat) (new : List Cell) : List Cell := cs.take off ++ new ++ cs.drop (off + new.length)

def spliceAll (place : Nat → Option (Nat × Nat)) : List Cell → List (Nat × List Cell) → Option (List Cell)
  | cs, [] => some cs
  | cs, (i, new) :: rest => match place i with
    | none => none
    | some (off, size) => if Nat.beq new.length size && Nat.ble (off + new.length) cs.length then spliceAll place (splice cs off new) rest else none

def noAny : List Cell → Bool
  | [] => true
  | .any :: _ => false
  | _ :: l => noAny l

def evParts (s : S) (g : List (Nat × Bool)) : List (Nat × Operand) → Option (List (Nat × List Cell))
  | [] => some []
  | (i, x) :: rest => match evS s g x with
    | none => none
    | some v => match v.cells, evParts s g rest with
      | some cs, some r => some ((i, cs) :: r)
      | _, _ => none

def sizeP (P : Program) (t : TypeId) : Option Nat := (P.info? t).map (·.size)

def places (P : Program) : List Field → Option (List (Nat × Nat))
  | [] => some []
  | f :: fs => match sizeP P f.type, places P fs with
    | some n, some r => some ((f.offset, n) :: r)
    | _, _ => none

def isAggD : TypeDesc → Bool
  | .struct _ => true
  | .array _ _ => true
  | _ => false

def loadS (P : Program) (T : TypeId) (cs : List Cell) (off : Nat) : Option SV1 :=
  match sizeP P T, P.underlying T with
  | some n, some d =>
    match isAggD d with
    | true => if Nat.ble (off + n) cs.length then some (.agg ((cs.drop off).take n)) else none
    | false => (cs[off]?).map .atom
  | _, _ => none

def cmpS (op : BinOp) (a b : Int) : Option Bool :=
  match op with
  | .eql => some (a == b)
  | .neq => some (a != b)
  | .lss => some (decide (a < b))
  | .leq => some (decide (a ≤ b))
  | .gtr => some (decide (a > b))
  | .geq => some (decide (a ≥ b))
  | _ => none

def binS (P : Program) (op : BinOp) (xT : TypeId) (x y : SV1) (yo : Operand) : Option SV1 :=
  match x, y with
  | .atom (.int k a), .atom (.int k' b) =>
    match k == k' with
    | false => none
    | true => match op with
      | .add => some (.atom (.int k (k.wrap (a + b))))
      | .sub => some (.atom (.int k (k.wrap (a - b))))
      | .mul => some (.atom (.int k (k.wrap (a * b))))
      | .rem => match yo with
        | .const (.int _ (.ofNat (n + 1))) => some (.atom (.int k (a.tmod (.ofNat (n + 1)))))
        | _ => none
      | .quo => match yo with
        | .const (.int _ (.ofNat (n + 1))) => some (.atom (.int k (k.wrap (a.tdiv (.ofNat (n + 1))))))
        | _ => none
      | op => (cmpS op a b).map fun r => .atom (.bool r)
  | .atom (.bool a), .atom (.bool b) =>
    match P.underlying xT with
    | some .bool => match op with
      | .eql => some (.atom (.bool (a == b)))
      | .neq => some (.atom (.bool (!(a == b))))
      | _ => none
    | _ => none
  | _, _ => none

def opEval (P : Program) (s : S) (g : List (Nat × Bool)) : Op → Option (SV1 × Eff)
  | .move x => (evS s g x).map fun v => (v, .no)
  | .assign x => (evS s g x).map fun v => (v, .no)
  | .pick (.tmp tc) a b => match evS s g (.tmp tc) with
    | some (.atom (.bool c)) => match evS s ((tc, true) :: g) a, evS s ((tc, false) :: g) b with
      | some (.atom (.bool x)), some (.atom (.bool y)) =>
        some (.atom (.bool (match a with
          | .const (.bool true) => c || y
          | _ => match b with
            | .const (.bool false) => c && x
            | _ => bif c then x else y)), .no)
      | _, _ => none
    | _ => none
  | .alloc T => match P.info? T with
    | some i => match i.zero with
      | some z => some (.atom (.ptr s.nb 0), .new T (cellsOfV z))
      | none => none
    | none => none
  | .box T x => match evS s g x with
    | some v => v.cells.map fun cs => (.atom (.ptr s.nb 0), .new T cs)
    | none => none
  | .build T parts => match P.info? T, P.underlying T, evParts s g parts.toList with
    | some i, some (.struct fs), some ps => match i.zero, places P fs.toList with
      | some z, some pl => (spliceAll (pl[·]?) (cellsOfV z) ps).map fun cs => (.agg cs, .no)
      | _, _ => none
    | _, _, _ => none
  | .buildSlice T len parts => match P.underlying T, evParts s g parts.toList with
    | some (.slice e), some ps => match P.info? e with
      | some i => match i.zero with
        | some z => if Nat.beq i.size (cellsOfV z).length && Nat.ble 1 i.size && Nat.ble (len * i.size) 1000 then
            (spliceAll (fun j => some (j * i.size, i.size)) ((List.replicate len (cellsOfV z)).flatten) ps).map fun cs => (.atom (.bsl s.nb 0 len len), .new e cs)
          else none
        | none => none
      | none => none
    | _, _ => none
  | .load T x => match evS s g x with
    | some (.atom (.ptr k off)) => match bx k s.boxes with
      | some ⟨_, .lit _ cs⟩ => (loadS P T cs off).map fun v => (v, .no)
      | _ => none
    | _ => none
  | .store T x y => match evS s g x, evS s g y with
    | some (.atom (.ptr k off)), some v => match bx k s.boxes, v.cells, sizeP P T with
      | some ⟨_, .lit T' cs⟩, some new, some n => if Nat.beq new.length n && Nat.ble (off + new.length) cs.length && noAny new then some (.atom .any, .upd k T' (splice cs off new)) else none
      | _, _, _ => none
    | _, _ => none
  | .nilCheck x => match evS s g x with
    | some (.atom (.ptr k off)) => some (.atom (.ptr k off), .no)
    | some (.atom (.clo f b k off)) => some (.atom (.clo f b k off), .no)
    | some (.atom (.raw (.pointer (some a)))) => some (.atom (.raw (.pointer (some a))), .no)
    | _ => none
  | .binOp op xT x y _ => match evS s g x, evS s g y with
    | some a, some b => (binS P op xT a b y).map fun v => (v, .no)
    | _, _ => none
  | .unOp .not _ x => match evS s g x with
    | some (.atom (.bool b)) => some (.atom (.bool (!b)), .no)
    | _ => none
  | .fieldAddr T x f => match evS s g x, P.underlying T with
    | some (.atom (.ptr k off)), some (.struct fs) => match fs.toList[f]? with
      | some fl => match sizeP P fl.type with
        | some (_ + 1) => some (.atom (.ptr k (off + fl.offset)), .no)
        | _ => none
      | none => none
    | some (.atom (.raw (.pointer (some a)))), some (.struct fs) => match fs.toList[f]? with
      | some fl => match sizeP P fl.type with
        | some (_ + 1) => some (.atom (.raw (.pointer (some (a.add fl.offset)))), .no)
        | _ => none
      | none => none
    | _, _ => none
  | .field T x f => match evS s g x, P.underlying T with
    | some (.agg cs), some (.struct fs) => match fs.toList[f]? with
      | some fl => (loadS P fl.type cs fl.offset).map fun v => (v, .no)
      | none => none
    | _, _ => none
  | .extract (.tmp t) i => match lk t s.slots with
    | .tup vs => (vs[i]?).map fun v => (v, .no)
    | _ => none
  | .makeFunc (.func f) first captured => match first.toList, captured.toList with
    | [x], [] => match evS s g x with
      | some (.atom (.ptr k off)) => some (.atom (.clo f true k off), .no)
      | _ => none
    | [], [x] => match evS s g x with
      | some (.atom (.ptr k off)) => some (.atom (.clo f false k off), .no)
      | _ => none
    | _, _ => none
  | .convert src dst x => match evS s g x, P.underlying src, P.underlying dst with
    | some (.atom (.int _ n)), some (.int _), some (.int k) => some (.atom (.int k (k.wrap n)), .no)
    | _, _, _ => none
  | .indexAddr T x (.const (.int _ (.ofNat i))) => match evS s g x, P.underlying T with
    | some (.atom (.ptr k off)), some (.array n e) => match sizeP P e with
      | some m => if Nat.blt i n then some (.atom (.ptr k (off + i * m)), .no) else none
      | none => none
    | some (.atom (.bsl k off n _)), some (.slice e) => match sizeP P e with
      | some m => if Nat.blt i n then some (.atom (.ptr k (off + i * m)), .no) else none
      | none => none
    | _, _ => none
  | .call ⟨.builtin .len, args, types⟩ => match args.toList, types.toList with
    | [x], [T] => match evS s g x, P.underlying T with
      | some (.atom (.str b)), some .string => some (.atom (.int .i64 b.size), .no)
      | some (.atom (.sl _ n)), some (.slice _) => some (.atom (.int .i64 n), .no)
      | some (.atom (.bsl _ _ n _)), some (.slice _) => some (.atom (.int .i64 n), .no)
      | _, _ => none
    | _, _ => none
  | .call ⟨.builtin .min, args, _⟩ => match args.toList with
    | [x, y] => match evS s g x, evS s g y with
      | some (.atom (.int k a)), some (.atom (.int _ b)) => some (.atom (.int k (if b < a then b else a)), .no)
      | _, _ => none
    | _ => none
  | .call ⟨.builtin .max, args, _⟩ => match args.toList with
    | [x, y] => match evS s g x, evS s g y with
      | some (.atom (.int k a)), some (.atom (.int _ b)) => some (.atom (.int k (if b > a then b else a)), .no)
      | _, _ => none
    | _ => none
  | _ => none

section sound
variable {P : Program} {hE : GH} {w0 : World} {inc : List Nat} {n : Nat} {s : S} {h : GH} {β : Nat → Nat} {w : World} {tmps : Array Value}

def evT (tmps : Array Value) : Operand → Value := (⟨tmps, []⟩ : Act).eval

def GOk (tmps : Array Value) (g : List (Nat × Bool)) : Prop := ∀ t w, hasG t w g = true → tmps.getD t undef = .bool w

theorem GOk.nil : GOk tmps [] := fun _ _ h => by simp [hasG] at h
theorem GOk.cons {g : List (Nat × Bool)} (hg : GOk tmps g) {t : Nat} {b : Bool} (ht : tmps.getD t undef = .bool b) : GOk tmps ((t, b) :: g) := by
  intro t' w' h
  simp only [hasG, Bool.or_eq_true, Bool.and_eq_true, beq_iff_eq] at h
  rcases h with ⟨h1, h2⟩ | h
  · have := Nat.eq_of_beq_eq_true h1; subst this; subst h2; exact ht
  · exact hg _ _ h

theorem chain_ok (hS : Sim hE w0 inc n s h β w tmps) : ∀ (m t : Nat) (b : Bool), tmps.getD t undef = .bool b → GOk tmps (chain s m t b) := by
  intro m
  induction m with
  | zero => intro t b ht; exact GOk.nil.cons ht
  | succ m ih =>
    intro t b ht
    refine GOk.cons ?_ ht
    have hs := hS.slots t
    cases hl : lk t s.slots with
    | one v => exact GOk.nil
    | tup v => exact GOk.nil
    | gd t' w' v =>
      rw [hl] at hs
      refine ih t' w' ?_
      rcases hs with ⟨h1, _⟩ | ⟨_, h2⟩
      · exact h1
      · rw [ht] at h2; simp [undef] at h2

theorem evS_ok (hS : Sim hE w0 inc n s h β w tmps) {g : List (Nat × Bool)} (hg : GOk tmps g) {x : Operand} {v : SV1} (he : evS s g x = some v) : SV1Ok s.nb β v (evT tmps x) := by
  cases x with
  | tmp t =>
    have hs := hS.slots t
    simp only [evS] at he
    cases hl : lk t s.slots with
    | one u => rw [hl] at he hs; simp at he; subst he; exact hs
    | tup u => rw [hl] at he; simp at he
    | gd t' w' u =>
      rw [hl] at he hs
      simp only at he
      split at he
      · rename_i hh
        simp at he; subst he
        rcases hs with ⟨_, h1⟩ | ⟨h1, _⟩
        · exact h1
        · exact absurd (hg _ _ hh) h1
      · simp at he
  | const u => simp only [evS, Option.some.injEq] at he; subst he; exact SV1ofV_ok _ _ _
  | func f => simp only [evS, Option.some.injEq] at he; subst he; exact ⟨rfl, rfl⟩
  | global g => simp [evS] at he

theorem evS_atom (hS : Sim hE w0 inc n s h β w tmps) {g : List (Nat × Bool)} (hg : GOk tmps g) {x : Operand} {c : Cell} (he : evS s g x = some (.atom c)) : CellOk s.nb β c (evT tmps x) := evS_ok hS hg he

theorem underlying_info {t : TypeId} {d : TypeDesc} (hd : P.underlying t = some d) : ∃ i, P.info? t = some i := by
  unfold Program.underlying at hd
  cases h : P.info? t with
  | none => rw [h] at hd; simp at hd
  | some i => exact ⟨i, rfl⟩

theorem run_sizeP {t : TypeId} {m : Nat} (hm : sizeP P t = some m) (w : World) : (sizeOf t).run P w = .ok m w := by
  unfold sizeP at hm
  cases hi : P.info? t with
  | none => rw [hi] at hm; simp at hm
  | some i => rw [hi] at hm; simp at hm; simp [sizeOf, typeInfo, hi, hm]

theorem run_isAggP {t : TypeId} {d : TypeDesc} (hd : P.underlying t = some d) (w : World) : (isAgg t).run P w = .ok (isAggD d) w := by
  unfold isAgg
  simp only [Sem.run_bind, run_underlying hd, Result.andThen_ok]
  cases d <;> simp [isAggD]

theorem cell_of_heap {b off : Nat} {arr : Array Value} {T : TypeId} {fr : Nat × Nat} (hb : w.heap[b]? = some (.cells arr T fr)) : w.cell? ⟨b, off, none⟩ = arr[off]? := by
  simp [World.cell?, hb]

theorem run_loadCells_heap {b off m : Nat} {arr : Array Value} {T : TypeId} {fr : Nat × Nat} (hb : w.heap[b]? = some (.cells arr T fr)) (hl : off + m ≤ arr.size) :
    (loadCells ⟨b, off, none⟩ m).run P w = .ok ((arr.toList.drop off).take m).toArray w := by
  have hlen : ((arr.toList.drop off).take m).length = m := by simp; omega
  have := run_loadCells_list (P := P) w ⟨b, off, none⟩ ((arr.toList.drop off).take m) (fun j v hj => by
    rw [Addr.add_lit, cell_of_heap hb]
    have hj' : j < m := by
      rcases Nat.lt_or_ge j m with h | h
      · exact h
      · rw [List.getElem?_eq_none (by omega)] at hj; simp at hj
    rw [List.getElem?_take, if_pos hj', List.getElem?_drop] at hj
    simpa using hj)
  rwa [hlen] at this

/-- A load out of a block that is known. -/
theorem run_loadVar_heap {t : TypeId} {m : Nat} {d : TypeDesc} (hm : sizeP P t = some m) (hd : P.underlying t = some d) {b off : Nat} {arr : Array Value} {T : TypeId} {fr : Nat × Nat}
    (hb : w.heap[b]? = some (.cells arr T fr)) {N : Nat} {β : Nat → Nat} {cs : List Cell} (hc : CellsOk N β cs arr.toList) {v : SV1} (hv : loadS P t cs off = some v) :
    ∃ u, SV1Ok N β v u ∧ ∀ w' : World, w'.heap[b]? = w.heap[b]? → (loadVar t ⟨b, off, none⟩).run P w' = .ok u w' := by
  simp only [loadS, hm, hd] at hv
  unfold loadVar
  simp only [Sem.run_bind, run_isAggP hd, Result.andThen_ok]
  have hlen := hc.length
  cases ha : isAggD d with
  | true =>
    rw [ha] at hv
    simp only at hv
    split at hv
    · rename_i hle
      have hle := Nat.le_of_ble_eq_true hle
      simp at hv; subst hv
      refine ⟨_, ⟨((arr.toList.drop off).take m).toArray, rfl, ?_⟩, fun w' hw' => ?_⟩
      · simpa using (hc.drop off).take m
      · simp at hlen
        simp [run_sizeP hm, run_loadCells_heap (hw'.trans hb) (m := m) (off := off) (by omega)]
    · simp at hv
  | false =>
    rw [ha] at hv
    simp only [Option.map_eq_some_iff] at hv
    obtain ⟨c, hc1, rfl⟩ := hv
    obtain ⟨u, hu, hok⟩ := hc.get hc1
    refine ⟨u, hok, fun w' hw' => ?_⟩
    have : w'.cell? ⟨b, off, none⟩ = some u := by rw [cell_of_heap (hw'.trans hb)]; simpa using hu
    simp [this]

theorem run_part {t : TypeId} {m : Nat} {d : TypeDesc} (hm : sizeP P t = some m) (hd : P.underlying t = some d) {off : Nat} {arr : Array Value} {N : Nat} {β : Nat → Nat} {cs : List Cell}
    (hc : CellsOk N β cs arr.toList) {v : SV1} (hv : loadS P t cs off = some v) : ∃ u, SV1Ok N β v u ∧ ∀ w : World, (part t arr off).run P w = .ok u w := by
  simp only [loadS, hm, hd] at hv
  unfold part
  simp only [Sem.run_bind, run_isAggP hd, Result.andThen_ok]
  have hlen := hc.length
  cases ha : isAggD d with
  | true =>
    rw [ha] at hv
    simp only at hv
    split at hv
    · simp at hv; subst hv
      refine ⟨_, ⟨arr.extract off (off + m), rfl, ?_⟩, by simp [run_sizeP hm]⟩
      have := (hc.drop off).take m
      simpa [List.extract_eq_take_drop, Array.toList_extract] using this
    · simp at hv
  | false =>
    rw [ha] at hv
    simp only [Option.map_eq_some_iff] at hv
    obtain ⟨c, hc1, rfl⟩ := hv
    obtain ⟨u, hu, hok⟩ := hc.get hc1
    refine ⟨u, hok, ?_⟩
    have : arr[off]? = some u := by simpa using hu
    simp [this]
end sound
end Go.Proofs.Ytkjahaoobdbffaa
