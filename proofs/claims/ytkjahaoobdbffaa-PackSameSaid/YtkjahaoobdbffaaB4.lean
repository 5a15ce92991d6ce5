/- The base of this seat's proofs, fourth part: the other operations that are computed. -/
import Derived.Test.YtkjahaoobdbffaaB3
namespace Go.Proofs.Ytkjahaoobdbffaa
open Go Go.RowKit

section sound
variable {P : Program} {hE : GH} {w0 : World} {inc : List Nat} {n : Nat} {s : S} {h : GH} {β : Nat → Nat} {w : World} {tmps : Array Value}

theorem CellsOk.flatten_replicate {N : Nat} {β : Nat → Nat} {cs : List Cell} {vs : List Value} (hc : CellsOk N β cs vs) (k : Nat) : CellsOk N β (List.replicate k cs).flatten (List.replicate k vs).flatten := by
  induction k with
  | zero => simp [CellsOk]
  | succ k ih => simp only [List.replicate_succ, List.flatten_cons]; exact hc.append ih

theorem zeros_eq (z : Array Value) : ∀ len, ((Array.range (len * z.size)).map (fun i => z[i % z.size]!)).toList = (List.replicate len z.toList).flatten := by
  intro len
  induction len with
  | zero => simp
  | succ len ih =>
    rw [List.replicate_succ', List.flatten_append, ← ih]
    simp only [Array.toList_map, Array.toList_range, Nat.add_mul, Nat.one_mul, List.range_add, List.map_append, List.map_map]
    congr 1
    apply List.ext_getElem
    · simp
    · intro i h1 h2
      simp only [List.length_map, List.length_range] at h1
      simp [Nat.mod_eq_of_lt h1, getElem!_pos, h1]

theorem op_buildSlice (hS : Sim hE w0 inc n s h β w tmps) {g : List (Nat × Bool)} (hg : GOk tmps g) {o : Oper} {T : TypeId} {len : Nat} {parts : Array (Nat × Operand)} (ho : o.op = .buildSlice T len parts) {v : SV1} {e : Eff}
    (he : opEval P s g (.buildSlice T len parts) = some (v, e)) : EffOk P s β w tmps o v e := by
  simp only [opEval] at he
  split at he
  · rename_i el ps hu hps
    split at he
    · rename_i i hi
      split at he
      · rename_i z hz
        split at he
        · rename_i hb
          simp only [Bool.and_eq_true] at hb
          have hb1 := Nat.eq_of_beq_eq_true hb.1.1
          have hb2 := Nat.le_of_ble_eq_true hb.1.2
          have hb3 := Nat.le_of_ble_eq_true hb.2
          obtain ⟨cs, h1, h2⟩ := map_some he
          simp only [Prod.mk.injEq] at h2
          obtain ⟨rfl, rfl⟩ := h2
          have hzl : (cellsOfV z).length = z.cells.size := by have := (cellsOfV_ok 0 β z).length; simpa using this.symm
          obtain ⟨h3, h4⟩ := evParts_ok hS hg _ _ hps
          have hz0 : CellsOk s.nb β (List.replicate len (cellsOfV z)).flatten ((Array.range (len * i.size)).map (fun j => z.cells[j % z.cells.size]!)).toList := by
            have := zeros_eq z.cells len
            rw [hb1, hzl, this]
            exact (cellsOfV_ok _ _ z).flatten_replicate len
          obtain ⟨arr, h5, h6⟩ := fill_ok (place' := fun j => some (j * i.size, i.size)) (fun _ _ h => h) ps _ _ _ cs hz0 h3 h4 h1
          refine ⟨arr, .slice (some ⟨w.heap.size, 0, none⟩) len len, h6, fun β' hb' => ⟨by rw [hb'], by omega⟩, ?_⟩
          have hne : ¬ len * i.size > 2 ^ 24 := by omega
          simp only [execOp, ho, Instr.buildSlice, Sem.run_bind, run_underlying hu, Result.andThen_ok, run_sizeP (show sizeP P el = some i.size by simp [sizeP, hi]), Sem.run_ite, if_neg hne]
          by_cases hz' : len * i.size = 0
          · have h5' : Instr.fill (fun j => some (j * i.size, i.size)) ((Array.range (len * i.size)).map (fun j => (#[] : Array Value)[j % (#[] : Array Value).size]!)) (parts.map fun (i, x) => (i, evT tmps x)).toList = some arr := by
              have hr : Array.range 0 = #[] := by simp [Array.range]
              rw [hz', hr] at h5 ⊢
              simpa using h5
            simp only [if_pos hz', Sem.run_pure, Result.andThen_ok, h5', Sem.run_bind, newRow, run_newObj, World.alloc_eq]
          · have h5' : Instr.fill (fun j => some (j * i.size, i.size)) ((Array.range (len * i.size)).map (fun j => z.cells[j % z.cells.size]!)) (parts.map fun (i, x) => (i, evT tmps x)).toList = some arr := by simpa using h5
            simp only [if_neg hz', zeroValue, typeInfo, Sem.run_bind, run_program, hi, hz, Sem.run_pure, Result.andThen_ok, h5', newRow, run_newObj, World.alloc_eq]
        · simp at he
      · simp at he
    · simp at he
  · simp at he

theorem op_load (hS : Sim hE w0 inc n s h β w tmps) {g : List (Nat × Bool)} (hg : GOk tmps g) {o : Oper} {T : TypeId} {x : Operand} (ho : o.op = .load T x) {v : SV1} {e : Eff}
    (he : opEval P s g (.load T x) = some (v, e)) : EffOk P s β w tmps o v e := by
  simp only [opEval] at he
  split at he
  · rename_i k off hx
    split at he
    · rename_i a T' cs hb
      obtain ⟨v', h1, h2⟩ := map_some he
      simp only [Prod.mk.injEq] at h2
      obtain ⟨rfl, rfl⟩ := h2
      have hp := evS_atom hS hg hx
      simp only [CellOk] at hp
      obtain ⟨arr, hh, hc⟩ := hS.box _ _ hb
      cases hm : sizeP P T with
      | none => simp [loadS, hm] at h1
      | some m => cases hd : P.underlying T with
        | none => simp [loadS, hm, hd] at h1
        | some d =>
          obtain ⟨u, h3, h4⟩ := run_loadVar_heap hm hd hh hc h1
          exact exec_no h3 (fun w' hw' => by simp [execOp, ho, Instr.loadAt, Instr.sureAddr, hp.1, h4 w' (hw' _ _ hb)])
    · simp at he
  · simp at he

theorem CellsOk.splice_ok {N : Nat} {β : Nat → Nat} {cs new : List Cell} {vs us : List Value} (hc : CellsOk N β cs vs) (hn : CellsOk N β new us) (off : Nat) : CellsOk N β (splice cs off new) (vs.take off ++ us ++ vs.drop (off + us.length)) := by
  unfold splice
  have := ((hc.take off).append hn).append (hc.drop (off + new.length))
  rw [hn.length]; exact this

theorem CellsOk.oneCell {N : Nat} {β : Nat → Nat} {cs : List Cell} {vs : List Value} (hc : CellsOk N β cs vs) (ha : ∀ c ∈ cs, c ≠ .any) : ∀ v ∈ vs, v.oneCell' = true := by
  induction cs generalizing vs with
  | nil => cases vs <;> simp_all [CellsOk]
  | cons c cs ih => cases vs with
    | nil => simp
    | cons v vs =>
      intro u hu
      simp only [List.mem_cons] at hu
      rcases hu with rfl | hu
      · exact CellOk.oneCell hc.1 (ha c (by simp))
      · exact ih hc.2 (fun c hc => ha c (by simp [hc])) u hu


theorem noAny_ok {cs : List Cell} (h : noAny cs = true) : ∀ c ∈ cs, c ≠ .any := by
  induction cs with
  | nil => simp
  | cons c cs ih =>
    intro d hd
    cases c <;> simp [noAny] at h
    all_goals
      simp only [List.mem_cons] at hd
      rcases hd with rfl | hd
      · simp
      · exact ih h d hd

theorem op_store (hS : Sim hE w0 inc n s h β w tmps) {g : List (Nat × Bool)} (hg : GOk tmps g) {o : Oper} {T : TypeId} {x y : Operand} (ho : o.op = .store T x y) {v : SV1} {e : Eff}
    (he : opEval P s g (.store T x y) = some (v, e)) : EffOk P s β w tmps o v e := by
  simp only [opEval] at he
  split at he
  · rename_i k off u hx hy
    split at he
    · rename_i a T' cs new m hb hnew hm
      split at he
      · rename_i hc
        simp only [Bool.and_eq_true] at hc
        have hc1 := Nat.eq_of_beq_eq_true hc.1.1
        have hc2 := Nat.le_of_ble_eq_true hc.1.2
        simp only [Option.some.injEq, Prod.mk.injEq] at he
        obtain ⟨rfl, rfl⟩ := he
        have hp := evS_atom hS hg hx
        simp only [CellOk] at hp
        obtain ⟨arr, hh, hcs⟩ := hS.box _ _ hb
        have hn := SV1.cells_ok hnew (evS_ok hS hg hy)
        have hl1 := hcs.length
        have hl2 := hn.length
        simp at hl1 hl2
        refine ⟨_, _, (arr.toList.take off ++ (evT tmps y).cells.toList ++ arr.toList.drop (off + (evT tmps y).cells.toList.length)).toArray, hb, ?_, ?_⟩
        · simpa using hcs.splice_ok hn off
        · have hst := run_storeCells_at P (β k) off T' (evT tmps y).cells.toList 0 arr w hh (by simp; omega) (hn.oneCell (noAny_ok hc.2))
          have hsz : (evT tmps y).cells.size = m := by omega
          simp only [Nat.add_zero] at hst
          simp [execOp, ho, Instr.storeAt, Instr.sureAddr, hp.1, storeVar, run_sizeP hm, hsz, hst]
      · simp at he
    · simp at he
  · simp at he

theorem op_nilCheck (hS : Sim hE w0 inc n s h β w tmps) {g : List (Nat × Bool)} (hg : GOk tmps g) {o : Oper} {x : Operand} (ho : o.op = .nilCheck x) {v : SV1} {e : Eff}
    (he : opEval P s g (.nilCheck x) = some (v, e)) : EffOk P s β w tmps o v e := by
  simp only [opEval] at he
  split at he
  · rename_i k off hx
    simp only [Option.some.injEq, Prod.mk.injEq] at he
    obtain ⟨rfl, rfl⟩ := he
    have hp := evS_atom hS hg hx
    exact exec_no hp (fun w' hw' => by simp only [CellOk] at hp; simp [execOp, ho, hp.1])
  · rename_i f b k off hx
    simp only [Option.some.injEq, Prod.mk.injEq] at he
    obtain ⟨rfl, rfl⟩ := he
    have hp := evS_atom hS hg hx
    exact exec_no hp (fun w' hw' => by simp only [CellOk] at hp; cases b <;> simp [execOp, ho, hp.1])
  · rename_i a hx
    simp only [Option.some.injEq, Prod.mk.injEq] at he
    obtain ⟨rfl, rfl⟩ := he
    have hp := evS_atom hS hg hx
    exact exec_no hp (fun w' hw' => by simp only [CellOk] at hp; simp [execOp, ho, hp.1])
  · simp at he

theorem op_unOp (hS : Sim hE w0 inc n s h β w tmps) {g : List (Nat × Bool)} (hg : GOk tmps g) {o : Oper} {u : UnOp} {T : TypeId} {x : Operand} (ho : o.op = .unOp u T x) {v : SV1} {e : Eff}
    (he : opEval P s g (.unOp u T x) = some (v, e)) : EffOk P s β w tmps o v e := by
  cases u <;> simp only [opEval] at he <;> try (simp at he; done)
  split at he
  · rename_i b hx
    simp only [Option.some.injEq, Prod.mk.injEq] at he
    obtain ⟨rfl, rfl⟩ := he
    have hp := evS_atom hS hg hx
    simp only [CellOk] at hp
    exact exec_no (u := .bool !b) rfl (fun w' hw' => by simp [execOp, ho, hp, Op.unary])
  · simp at he

theorem op_fieldAddr (hS : Sim hE w0 inc n s h β w tmps) {g : List (Nat × Bool)} (hg : GOk tmps g) {o : Oper} {T : TypeId} {x : Operand} {f : Nat} (ho : o.op = .fieldAddr T x f) {v : SV1} {e : Eff}
    (he : opEval P s g (.fieldAddr T x f) = some (v, e)) : EffOk P s β w tmps o v e := by
  simp only [opEval] at he
  split at he
  · rename_i k off fs hx hu
    split at he
    · rename_i fl hf
      split at he
      · rename_i m hm
        simp only [Option.some.injEq, Prod.mk.injEq] at he
        obtain ⟨rfl, rfl⟩ := he
        have hp := evS_atom hS hg hx
        simp only [CellOk] at hp
        refine exec_no (u := .pointer (some ⟨β k, off + fl.offset, none⟩)) ⟨rfl, hp.2⟩ (fun w' hw' => ?_)
        have hf' : fs[f]? = some fl := by simpa using hf
        simp [execOp, ho, Instr.fieldAt, run_underlying hu, hf', hp.1, Instr.sureAddr, fieldPlace, run_sizeP hm, Addr.add_lit]
      · simp at he
    · simp at he
  · rename_i a fs hx hu
    split at he
    · rename_i fl hf
      split at he
      · rename_i m hm
        simp only [Option.some.injEq, Prod.mk.injEq] at he
        obtain ⟨rfl, rfl⟩ := he
        have hp := evS_atom hS hg hx
        simp only [CellOk] at hp
        refine exec_no (u := .pointer (some (a.add fl.offset))) ⟨rfl, rfl⟩ (fun w' hw' => ?_)
        have hf' : fs[f]? = some fl := by simpa using hf
        simp [execOp, ho, Instr.fieldAt, run_underlying hu, hf', hp.1, Instr.sureAddr, fieldPlace, run_sizeP hm]
      · simp at he
    · simp at he
  · simp at he

theorem loadS_some {T : TypeId} {cs : List Cell} {off : Nat} {v : SV1} (h : loadS P T cs off = some v) : ∃ m d, sizeP P T = some m ∧ P.underlying T = some d := by
  unfold loadS at h
  split at h
  · rename_i m d h1 h2; exact ⟨m, d, h1, h2⟩
  · simp at h

theorem op_field (hS : Sim hE w0 inc n s h β w tmps) {g : List (Nat × Bool)} (hg : GOk tmps g) {o : Oper} {T : TypeId} {x : Operand} {f : Nat} (ho : o.op = .field T x f) {v : SV1} {e : Eff}
    (he : opEval P s g (.field T x f) = some (v, e)) : EffOk P s β w tmps o v e := by
  simp only [opEval] at he
  split at he
  · rename_i cs fs hx hu
    split at he
    · rename_i fl hf
      obtain ⟨v', h1, h2⟩ := map_some he
      simp only [Prod.mk.injEq] at h2
      obtain ⟨rfl, rfl⟩ := h2
      obtain ⟨m, d, hm, hd⟩ := loadS_some h1
      obtain ⟨arr, harr, hc⟩ := evS_ok hS hg hx
      obtain ⟨u, h3, h4⟩ := run_part hm hd hc h1
      have hf' : fs[f]? = some fl := by simpa using hf
      exact exec_no h3 (fun w' hw' => by simp [execOp, ho, Instr.field, run_underlying hu, hf', harr, asAgg, h4 w'])
    · simp at he
  · simp at he

theorem SV1sOk.get {N : Nat} {β : Nat → Nat} {cs : List SV1} {vs : List Value} (h : SV1sOk N β cs vs) {i : Nat} {c : SV1} (hi : cs[i]? = some c) : ∃ v, vs[i]? = some v ∧ SV1Ok N β c v := by
  induction cs generalizing vs i with
  | nil => simp at hi
  | cons x cs ih => cases vs with
    | nil => simp [SV1sOk] at h
    | cons v vs =>
      cases i with
      | zero => simp at hi; subst hi; exact ⟨v, rfl, h.1⟩
      | succ i => simp at hi; simpa using ih h.2 hi

theorem op_extract (hS : Sim hE w0 inc n s h β w tmps) {o : Oper} {x : Operand} {i : Nat} (ho : o.op = .extract x i) {g : List (Nat × Bool)} {v : SV1} {e : Eff}
    (he : opEval P s g (.extract x i) = some (v, e)) : EffOk P s β w tmps o v e := by
  cases x with
  | tmp t =>
    simp only [opEval] at he
    split at he
    · rename_i vs hl
      obtain ⟨v', h1, h2⟩ := map_some he
      simp only [Prod.mk.injEq] at h2
      obtain ⟨rfl, rfl⟩ := h2
      have hs := hS.slots t
      rw [hl] at hs
      obtain ⟨arr, harr, hc⟩ := hs
      obtain ⟨u, h3, h4⟩ := hc.get h1
      have h3' : arr[i]? = some u := by simpa using h3
      have : evT tmps (.tmp t) = .tuple arr := harr
      exact exec_no h4 (fun w' hw' => by simp [execOp, ho, Instr.extract, this, h3'])
    · simp at he
  | _ => simp [opEval] at he

theorem op_convert (hS : Sim hE w0 inc n s h β w tmps) {g : List (Nat × Bool)} (hg : GOk tmps g) {o : Oper} {a b : TypeId} {x : Operand} (ho : o.op = .convert a b x) {v : SV1} {e : Eff}
    (he : opEval P s g (.convert a b x) = some (v, e)) : EffOk P s β w tmps o v e := by
  simp only [opEval] at he
  split at he
  · rename_i k m k' k'' hx h1 h2
    simp only [Option.some.injEq, Prod.mk.injEq] at he
    obtain ⟨rfl, rfl⟩ := he
    have hp := evS_atom hS hg hx
    simp only [CellOk] at hp
    refine exec_no (u := .int k'' (k''.wrap m)) rfl (fun w' hw' => ?_)
    simp [execOp, ho, convert, run_underlying h1, run_underlying h2, hp, Conv.intToInt]
  · simp at he


theorem run_eqGuard_int (op : BinOp) (T : TypeId) (x y : Operand) (k k' : IntKind) (a b : Int) (w : World) : (eqGuard op T x y (.int k a) (.int k' b)).run P w = .ok () w := by
  unfold eqGuard; split <;> simp

theorem run_eqGuard_bool (op : BinOp) (T : TypeId) (x y : Operand) (a b : Bool) (w : World) : (eqGuard op T x y (.bool a) (.bool b)).run P w = .ok () w := by
  unfold eqGuard; split <;> simp

theorem run_equalIn_bool {T : TypeId} (hu : P.underlying T = some .bool) (d : Nat) (a b : Bool) (w : World) : (Op.equalIn (d + 1) T (.bool a) (.bool b)).run P w = .ok (a == b) w := by
  simp only [Op.equalIn, Sem.run_bind, run_underlying hu, Result.andThen_ok, Sem.run_pure]

theorem run_eql_bool {T : TypeId} (hu : P.underlying T = some .bool) (a b : Bool) (w : World) : (binOp .eql T (.bool a) (.bool b)).run P w = .ok (.bool (a == b)) w := by
  have := run_equalIn_bool hu 9999 a b w
  simp only [binOp, Op.equal, Op.maxDepth, Sem.run_bind, this, Result.andThen_ok, Sem.run_pure]

theorem run_neq_bool {T : TypeId} (hu : P.underlying T = some .bool) (a b : Bool) (w : World) : (binOp .neq T (.bool a) (.bool b)).run P w = .ok (.bool (!(a == b))) w := by
  have := run_equalIn_bool hu 9999 a b w
  simp only [binOp, Op.equal, Op.maxDepth, Sem.run_bind, this, Result.andThen_ok, Sem.run_pure]

theorem cmp_ok {op : BinOp} {k : IntKind} {a b : Int} {r : Bool} (T : TypeId) (hr : cmpS op a b = some r) (w : World) : (binOp op T (.int k a) (.int k b)).run P w = .ok (.bool r) w := by
  cases op <;> simp [cmpS] at hr <;> subst hr <;> simp [binOp, Op.intCmp]

theorem op_binOp (hS : Sim hE w0 inc n s h β w tmps) {g : List (Nat × Bool)} (hg : GOk tmps g) {o : Oper} {op : BinOp} {T T' : TypeId} {x y : Operand} (ho : o.op = .binOp op T x y T') {v : SV1} {e : Eff}
    (he : opEval P s g (.binOp op T x y T') = some (v, e)) : EffOk P s β w tmps o v e := by
  simp only [opEval] at he
  split at he
  · rename_i a b ha hb
    obtain ⟨v', h1, h2⟩ := map_some he
    simp only [Prod.mk.injEq] at h2
    obtain ⟨rfl, rfl⟩ := h2
    have hpa := evS_ok hS hg ha
    have hpb := evS_ok hS hg hb
    unfold binS at h1
    split at h1
    · rename_i k i k' j
      simp only [SV1Ok, CellOk] at hpa hpb
      split at h1
      · simp at h1
      · rename_i hk
        have hk : k = k' := by simpa using hk
        subst hk
        split at h1
        · simp only [Option.some.injEq] at h1; subst h1
          exact exec_no rfl (fun w' hw' => by simp [execOp, ho, hpa, hpb, run_eqGuard_int, binOp, Op.intArith])
        · simp only [Option.some.injEq] at h1; subst h1
          exact exec_no rfl (fun w' hw' => by simp [execOp, ho, hpa, hpb, run_eqGuard_int, binOp, Op.intArith])
        · simp only [Option.some.injEq] at h1; subst h1
          exact exec_no rfl (fun w' hw' => by simp [execOp, ho, hpa, hpb, run_eqGuard_int, binOp, Op.intArith])
        · split at h1
          · rename_i kk m
            simp only [Option.some.injEq] at h1; subst h1
            have : evT tmps (.const (.int kk (.ofNat (m + 1)))) = .int kk (.ofNat (m + 1)) := rfl
            rw [this] at hpb
            simp only [Value.int.injEq] at hpb
            obtain ⟨rfl, rfl⟩ := hpb
            have hne : ¬ (Int.ofNat (m + 1) = 0) := by simp; omega
            refine exec_no rfl (fun w' hw' => ?_)
            simp only [execOp, ho, hpa, this, Sem.run_bind, run_eqGuard_int, Result.andThen_ok, binOp, Op.intDiv, if_neg hne]
            simp
          · simp at h1
        · split at h1
          · rename_i kk m
            simp only [Option.some.injEq] at h1; subst h1
            have : evT tmps (.const (.int kk (.ofNat (m + 1)))) = .int kk (.ofNat (m + 1)) := rfl
            rw [this] at hpb
            simp only [Value.int.injEq] at hpb
            obtain ⟨rfl, rfl⟩ := hpb
            have hne : ¬ (Int.ofNat (m + 1) = 0) := by simp; omega
            refine exec_no rfl (fun w' hw' => ?_)
            simp only [execOp, ho, hpa, this, Sem.run_bind, run_eqGuard_int, Result.andThen_ok, binOp, Op.intDiv, if_neg hne]
            simp
          · simp at h1
        · obtain ⟨r, h3, h4⟩ := map_some h1
          subst h4
          exact exec_no rfl (fun w' hw' => by simp [execOp, ho, hpa, hpb, run_eqGuard_int, cmp_ok T h3])
    · rename_i p q
      simp only [SV1Ok, CellOk] at hpa hpb
      split at h1
      · rename_i hu
        split at h1
        · simp only [Option.some.injEq] at h1; subst h1
          exact exec_no rfl (fun w' hw' => by simp [execOp, ho, hpa, hpb, run_eqGuard_bool, run_eql_bool hu])
        · simp only [Option.some.injEq] at h1; subst h1
          exact exec_no rfl (fun w' hw' => by simp [execOp, ho, hpa, hpb, run_eqGuard_bool, run_neq_bool hu])
        · simp at h1
      · simp at h1
    · simp at h1
  · simp at he

theorem op_makeFunc (hS : Sim hE w0 inc n s h β w tmps) {g : List (Nat × Bool)} (hg : GOk tmps g) {o : Oper} {fn : Fn} {first captured : Array Operand} (ho : o.op = .makeFunc fn first captured) {v : SV1} {e : Eff}
    (he : opEval P s g (.makeFunc fn first captured) = some (v, e)) : EffOk P s β w tmps o v e := by
  cases fn <;> simp only [opEval] at he <;> try (simp at he; done)
  split at he
  · rename_i x h1 h2
    have h1' : first = #[x] := by apply Array.ext'; simpa using h1
    have h2' : captured = #[] := by apply Array.ext'; simpa using h2
    subst h1' h2'
    split at he
    · rename_i k off hx
      simp only [Option.some.injEq, Prod.mk.injEq] at he
      obtain ⟨rfl, rfl⟩ := he
      have hp := evS_atom hS hg hx
      simp only [CellOk] at hp
      exact exec_no ⟨rfl, hp.2⟩ (fun w' hw' => by simp [execOp, ho, Instr.makeFunc, hp.1])
    · simp at he
  · rename_i x h1 h2
    have h1' : first = #[] := by apply Array.ext'; simpa using h1
    have h2' : captured = #[x] := by apply Array.ext'; simpa using h2
    subst h1' h2'
    split at he
    · rename_i k off hx
      simp only [Option.some.injEq, Prod.mk.injEq] at he
      obtain ⟨rfl, rfl⟩ := he
      have hp := evS_atom hS hg hx
      simp only [CellOk] at hp
      exact exec_no ⟨rfl, hp.2⟩ (fun w' hw' => by simp [execOp, ho, Instr.makeFunc, hp.1])
    · simp at he
  · simp at he

theorem op_indexAddr (hS : Sim hE w0 inc n s h β w tmps) {g : List (Nat × Bool)} (hg : GOk tmps g) {o : Oper} {T : TypeId} {x y : Operand} (ho : o.op = .indexAddr T x y) {v : SV1} {e : Eff}
    (he : opEval P s g (.indexAddr T x y) = some (v, e)) : EffOk P s β w tmps o v e := by
  unfold opEval at he
  split at he <;> try (simp at he; done)
  all_goals first | (rename_i hh; cases hh; done) | skip
  rename_i T' x' k i heq
  cases heq
  split at he
  · rename_i b off m el hx hu
    split at he
    · rename_i sz hsz
      split at he
      · rename_i hlt
        have hlt : i < m := Nat.le_of_ble_eq_true hlt
        simp only [Option.some.injEq, Prod.mk.injEq] at he
        obtain ⟨rfl, rfl⟩ := he
        have hp := evS_atom hS hg hx
        simp only [CellOk] at hp
        refine exec_no (u := .pointer (some ⟨β b, off + i * sz, none⟩)) ⟨rfl, hp.2⟩ (fun w' hw' => ?_)
        have hv : evT tmps (.const (.int k (.ofNat i))) = .int k (.ofNat i) := rfl
        have hc : (0 : Int) ≤ Int.ofNat i ∧ Int.ofNat i < (m : Int) := ⟨by simp, by simp; omega⟩
        simp only [execOp, ho, Instr.indexAt, hv, asIntOf, Sem.run_bind, Sem.run_pure, Result.andThen_ok, run_underlying hu, hp.1, Instr.sureAddr, Sem.run_ite, if_pos hc, run_sizeP hsz, Addr.add_lit]
        simp
      · simp at he
    · simp at he
  · rename_i b off m cp el hx hu
    split at he
    · rename_i sz hsz
      split at he
      · rename_i hlt
        have hlt : i < m := Nat.le_of_ble_eq_true hlt
        simp only [Option.some.injEq, Prod.mk.injEq] at he
        obtain ⟨rfl, rfl⟩ := he
        have hp := evS_atom hS hg hx
        simp only [CellOk] at hp
        refine exec_no (u := .pointer (some ⟨β b, off + i * sz, none⟩)) ⟨rfl, hp.2⟩ (fun w' hw' => ?_)
        have hv : evT tmps (.const (.int k (.ofNat i))) = .int k (.ofNat i) := rfl
        have hc : (0 : Int) ≤ Int.ofNat i ∧ Int.ofNat i < (m : Int) := ⟨by simp, by simp; omega⟩
        simp only [execOp, ho, Instr.indexAt, hv, asIntOf, Sem.run_bind, Sem.run_pure, Result.andThen_ok, run_underlying hu, hp.1, Sem.run_ite, if_pos hc, run_sizeP hsz, Addr.add_lit]
        simp
      · simp at he
    · simp at he
  · simp at he

theorem op_call (hS : Sim hE w0 inc n s h β w tmps) {g : List (Nat × Bool)} (hg : GOk tmps g) {o : Oper} {c : Call} (ho : o.op = .call c) {v : SV1} {e : Eff}
    (he : opEval P s g (.call c) = some (v, e)) : EffOk P s β w tmps o v e := by
  obtain ⟨callee, args, types⟩ := c
  cases callee with
  | value f => simp [opEval] at he
  | invoke f m => simp [opEval] at he
  | builtin b =>
    cases b <;> simp only [opEval] at he <;> try (simp at he; done)
    case len =>
      split at he
      · rename_i x T h1 h2
        have h1' : args = #[x] := by apply Array.ext'; simpa using h1
        have h2' : types = #[T] := by apply Array.ext'; simpa using h2
        subst h1' h2'
        split at he
        · rename_i b hx hu
          simp only [Option.some.injEq, Prod.mk.injEq] at he
          obtain ⟨rfl, rfl⟩ := he
          have hp := evS_atom hS hg hx
          simp only [CellOk] at hp
          exact exec_no rfl (fun w' hw' => by simp [execOp, ho, resolve, invoke, builtin, Builtin.len_, run_underlying hu, hp, goInt])
        · rename_i u m el hx hu
          simp only [Option.some.injEq, Prod.mk.injEq] at he
          obtain ⟨rfl, rfl⟩ := he
          have hp := evS_atom hS hg hx
          simp only [CellOk] at hp
          obtain ⟨hp, a, cp, hp'⟩ := hp
          exact exec_no rfl (fun w' hw' => by simp [execOp, ho, resolve, invoke, builtin, Builtin.len_, run_underlying hu, hp, hp', goInt])
        · rename_i k off m cp el hx hu
          simp only [Option.some.injEq, Prod.mk.injEq] at he
          obtain ⟨rfl, rfl⟩ := he
          have hp := evS_atom hS hg hx
          simp only [CellOk] at hp
          exact exec_no rfl (fun w' hw' => by simp [execOp, ho, resolve, invoke, builtin, Builtin.len_, run_underlying hu, hp.1, goInt])
        · simp at he
      · simp at he
    case min =>
      split at he
      · rename_i x y h1
        have h1' : args = #[x, y] := by apply Array.ext'; simpa using h1
        subst h1'
        split at he
        · rename_i k a k' b hx hy
          simp only [Option.some.injEq, Prod.mk.injEq] at he
          obtain ⟨rfl, rfl⟩ := he
          have hp := evS_atom hS hg hx
          have hq := evS_atom hS hg hy
          simp only [CellOk] at hp hq
          exact exec_no rfl (fun w' hw' => by simp [execOp, ho, resolve, invoke, builtin, Builtin.min_, Builtin.min2, hp, hq])
        · simp at he
      · simp at he
    case max =>
      split at he
      · rename_i x y h1
        have h1' : args = #[x, y] := by apply Array.ext'; simpa using h1
        subst h1'
        split at he
        · rename_i k a k' b hx hy
          simp only [Option.some.injEq, Prod.mk.injEq] at he
          obtain ⟨rfl, rfl⟩ := he
          have hp := evS_atom hS hg hx
          have hq := evS_atom hS hg hy
          simp only [CellOk] at hp hq
          exact exec_no rfl (fun w' hw' => by simp [execOp, ho, resolve, invoke, builtin, Builtin.max_, Builtin.max2, hp, hq])
        · simp at he
      · simp at he

/-- **What is computed is what the machine does.** -/
theorem opEval_ok (hS : Sim hE w0 inc n s h β w tmps) {g : List (Nat × Bool)} (hg : GOk tmps g) {o : Oper} {v : SV1} {e : Eff} (he : opEval P s g o.op = some (v, e)) : EffOk P s β w tmps o v e := by
  cases ho : o.op <;> rw [ho] at he
  case move x => exact op_move hS hg (.inl ho) he
  case assign x => exact op_move hS hg (.inr ho) he
  case pick => exact op_pick hS hg ho he
  case alloc => exact op_alloc ho he
  case box => exact op_box hS hg ho he
  case build => exact op_build hS hg ho he
  case buildSlice => exact op_buildSlice hS hg ho he
  case load => exact op_load hS hg ho he
  case store => exact op_store hS hg ho he
  case nilCheck => exact op_nilCheck hS hg ho he
  case binOp => exact op_binOp hS hg ho he
  case unOp => exact op_unOp hS hg ho he
  case fieldAddr => exact op_fieldAddr hS hg ho he
  case field => exact op_field hS hg ho he
  case extract => exact op_extract hS ho he
  case makeFunc => exact op_makeFunc hS hg ho he
  case convert => exact op_convert hS hg ho he
  case indexAddr => exact op_indexAddr hS hg ho he
  case call => exact op_call hS hg ho he
  all_goals simp [opEval] at he
end sound
end Go.Proofs.Ytkjahaoobdbffaa
