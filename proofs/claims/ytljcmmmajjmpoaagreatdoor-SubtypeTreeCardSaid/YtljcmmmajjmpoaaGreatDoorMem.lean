/- Memory: what new blocks, loads and stores do to what is known. -/
import Derived.Test.YtljcmmmajjmpoaaGreatDoorRxa
import Derived.Laws.CopyRow
namespace Go.Proofs.YtljcmmmajjmpoaaGreatDoor
open Go.RowKit Sp

/-- All that lay there lies as it lay. -/
abbrev Ext (w w1 : World) : Prop := Below w.heap.size w w1
theorem Ext.rfl' (w : World) : Ext w w := Below.refl _ _
theorem Ext.then_ {a b c : World} (h : Ext a b) (k : Ext b c) : Ext a c := h.trans (k.mono h.size)
theorem Ext.cell_ {w w1 : World} (h : Ext w w1) {a : Addr} {v : Value} (hc : w.cell? a = some v) : w1.cell? a = some v := (h.cell (World.block_lt_of_cell? w a hc)).trans hc
/-- Block g is just these cells. -/
def Blk (w : World) (g : Nat) (t : TypeId) (cs : List Value) : Prop := w.heap[g]? = some (.cells cs.toArray t (0, 0))
def setN : List Value → Nat → Value → List Value
  | [], _, _ => []
  | x :: r, i, v => match i with
    | 0 => v :: r
    | i + 1 => x :: setN r i v
theorem setN_eq : ∀ (l : List Value) (i : Nat) (v : Value), setN l i v = l.set i v
  | [], _, _ => by simp [setN]
  | x :: r, 0, v => by simp [setN]
  | x :: r, i + 1, v => by simp [setN, setN_eq r i v]
theorem Blk.lt {w : World} {g : Nat} {t : TypeId} {cs : List Value} (h : Blk w g t cs) : g < w.heap.size := by
  rcases Nat.lt_or_ge g w.heap.size with hlt | hge
  · exact hlt
  · unfold Blk at h; rw [Array.getElem?_eq_none hge] at h; cases h
theorem Blk.cell {w : World} {g i : Nat} {t : TypeId} {cs : List Value} {v : Value} (h : Blk w g t cs) (hv : nth cs i = some v) : w.cell? ⟨g, i, none⟩ = some v := by
  rw [nth_eq] at hv
  unfold Blk at h
  simp [World.cell?, h, hv]
theorem Blk.frozen {w : World} {g i : Nat} {t : TypeId} {cs : List Value} (h : Blk w g t cs) : w.frozen? ⟨g, i, none⟩ = false := by
  unfold Blk at h
  simp [World.frozen?, h]
theorem Blk.ext {w w1 : World} {g : Nat} {t : TypeId} {cs : List Value} (h : Blk w g t cs) (he : Ext w w1) : Blk w1 g t cs := (he.block g h.lt).trans h
theorem Blk.new (w : World) (t : TypeId) (cs : List Value) : Blk (w.alloc (.cells cs.toArray t)) w.heap.size t cs := heap_alloc_new w _
/-- Block g alone has turned. -/
structure Upd (g : Nat) (w w1 : World) : Prop where
  os : w1.os = w.os
  tape : w1.tape = w.tape
  output : w1.output = w.output
  size : w1.heap.size = w.heap.size
  block : ∀ k, k ≠ g → w1.heap[k]? = w.heap[k]?
theorem Upd.ext {w0 w w1 : World} {g : Nat} (h : Upd g w w1) (he : Ext w0 w) (hg : w0.heap.size ≤ g) : Ext w0 w1 :=
  he.trans ⟨h.os, h.tape, h.output, by rw [h.size]; exact Nat.le_refl _, fun k hk => h.block k (by omega)⟩
theorem Upd.blk {w w1 : World} {g g' : Nat} (h : Upd g w w1) {t : TypeId} {cs : List Value} (hb : Blk w g' t cs) (hne : g' ≠ g) : Blk w1 g' t cs := (h.block g' hne).trans hb
theorem Upd.cell {w w1 : World} {g : Nat} (h : Upd g w w1) {a : Addr} (hne : a.block ≠ g) : w1.cell? a = w.cell? a := World.cell?_of_block (w := w) (h.block a.block hne)
/-- The cells from an address on. -/
def CellsAt (w : World) (a : Addr) (cs : List Value) : Prop := ∀ j v, cs[j]? = some v → w.cell? (a.add j) = some v
theorem CellsAt.ext {w w1 : World} {a : Addr} {cs : List Value} (h : CellsAt w a cs) (he : Ext w w1) : CellsAt w1 a cs := fun j v hv => he.cell_ (h j v hv)
theorem CellsAt.at_ {w : World} {a : Addr} {cs : List Value} (h : CellsAt w a cs) {j : Nat} {v : Value} (hv : nth cs j = some v) : w.cell? (a.add j) = some v := h j v (by rw [← nth_eq]; exact hv)
theorem add_add (a : Addr) (i j : Nat) : (a.add i).add j = a.add (i + j) := by
  unfold Addr.add
  by_cases hi : i = 0 <;> by_cases hj : j = 0 <;> simp [hi, hj, Nat.add_assoc]
theorem CellsAt.sub {w : World} {a : Addr} {cs : List Value} (h : CellsAt w a cs) (o : Nat) {sub rest : List Value} (hs : cs.drop o = sub ++ rest) : CellsAt w (a.add o) sub := fun j v hv => by
  rw [add_add]
  refine h (o + j) v ?_
  rw [← List.getElem?_drop, hs, List.getElem?_append_left (List.getElem?_eq_some_iff.1 hv).1]
  exact hv
theorem Blk.cells {w : World} {g : Nat} {t : TypeId} {cs : List Value} (h : Blk w g t cs) : CellsAt w ⟨g, 0, none⟩ cs := fun j v hv => by
  have := h.cell (i := j) (by rw [nth_eq]; exact hv)
  unfold Addr.add
  split
  · rename_i e; subst e; exact this
  · simpa using this
theorem add_block (a : Addr) (i : Nat) : (a.add i).block = a.block := by unfold Addr.add; split <;> rfl

def look {α : Type} : List (Nat × α) → Nat → Option α
  | [], _ => none
  | (k, v) :: r, t => if k = t then some v else look r t
def AllL {α : Type} (p : Nat × α → Prop) : List (Nat × α) → Prop
  | [] => True
  | x :: r => p x ∧ AllL p r
theorem look_ok {α : Type} {p : Nat × α → Prop} : ∀ {l : List (Nat × α)} {t : Nat} {v : α}, AllL p l → look l t = some v → p (t, v)
  | (k, u) :: r, t, v, h, hl => by
    simp only [look] at hl
    split at hl
    · rename_i e; subst e; cases hl; exact h.1
    · exact look_ok h.2 hl
def nthN : List Nat → Nat → Option Nat
  | [], _ => none
  | x :: r, i => match i with
    | 0 => some x
    | i + 1 => nthN r i
def AllI (p : Nat → Nat → Prop) : Nat → List Nat → Prop
  | _, [] => True
  | i, x :: r => p i x ∧ AllI p (i + 1) r
theorem AllI_at {p : Nat → Nat → Prop} : ∀ {l : List Nat} {j i o : Nat}, AllI p j l → nthN l i = some o → p (j + i) o
  | x :: r, j, 0, o, h, hl => by cases hl; exact h.1
  | x :: r, j, i + 1, o, h, hl => by
    have := AllI_at (l := r) (j := j + 1) (i := i) h.2 hl
    rwa [show j + 1 + i = j + (i + 1) by omega] at this
theorem AllI_ok {p : Nat → Nat → Prop} {l : List Nat} {i o : Nat} (h : AllI p 0 l) (hl : nthN l i = some o) : p i o := by
  have := AllI_at h hl
  rwa [Nat.zero_add] at this
/-- What the program's table of types says, as far as a walk wants it. -/
structure Info (P : Program) where
  fieldO : TypeId → Nat → Option Nat
  fieldO_ok : ∀ s f o, fieldO s f = some o → ∀ a w, (Instr.fieldAt s (.pointer (some a)) f).run P w = .ok (.pointer (some (a.add o))) w
  sliT : TypeId → Bool
  sliT_ok : ∀ t, sliT t = true → ∃ e, P.underlying t = some (.slice e)
  elemZ : TypeId → Option Nat
  elemZ_ok : ∀ t z, elemZ t = some z → ∃ e, P.underlying t = some (.slice e) ∧ ∀ w, (sizeOf e).run P w = .ok z w
  aggZ : TypeId → Option Nat
  aggZ_ok : ∀ t z, aggZ t = some z → ∀ w, (isAgg t).run P w = .ok true w ∧ (sizeOf t).run P w = .ok z w
  sca : TypeId → Bool
  sca_ok : ∀ t, sca t = true → ∀ w, (isAgg t).run P w = .ok false w ∧ (sizeOf t).run P w = .ok 1 w
  ptrT : TypeId → Bool
  ptrT_ok : ∀ t, ptrT t = true → ∃ e, P.underlying t = some (.pointer e)
  boolT : TypeId → Bool
  boolT_ok : ∀ t, boolT t = true → P.underlying t = some .bool
  zero : TypeId → Option Value
  zero_ok : ∀ t v, zero t = some v → ∀ w, (zeroValue t).run P w = .ok v w

/-- One plain operation, types in hand. -/
def valI {P : Program} (I : Info P) (fr : Fr) (p : List (Nat × Bool)) : Op → Option Value
  | .fieldAddr s x f => match gv fr p x with
    | some (.pointer (some a)) => match I.fieldO s f with
      | some o => some (.pointer (some (a.add o)))
      | none => none
    | _ => none
  | .call c => match c.callee, c.args.toList, c.argTypes.toList with
    | .builtin .len, [x], [t] => match gv fr p x with
      | some (.slice _ m _) => if I.sliT t = true then some (.int .i64 (m : Nat)) else none
      | _ => none
    | _, _, _ => none
  | .binOp op t x y _ => match gv fr p x, gv fr p y with
    | some (.pointer a), some (.pointer b) => if I.ptrT t = true then (match a, b with
      | some _, none => match op with
        | .eql => some (.bool false)
        | .neq => some (.bool true)
        | _ => none
      | none, none => match op with
        | .eql => some (.bool true)
        | .neq => some (.bool false)
        | _ => none
      | _, _ => none) else none
    | some (.bool a), some (.bool b) => if I.boolT t = true then (match op with
      | .eql => some (.bool (a == b))
      | .neq => some (.bool !(a == b))
      | _ => none) else none
    | _, _ => none
  | .makeFunc fn first captured => match first.toList.mapM (gv fr p), captured.toList.mapM (gv fr p) with
    | some f, some c => some (.func fn f.toArray c.toArray)
    | _, _ => none
  | _ => none
def stepI {P : Program} (I : Info P) (n : Nat) (ops : Array Oper) (fr : Fr) (o : Oper) : Option (Nat × List (Nat × Bool) × Value) := match pathOf ops fr o with
  | some p => match o.dst with
    | some d => match valI I fr p o.op with
      | some v => if (decide (d < n) && fresh d fr && freshP d p) = true then some (d, p, v) else none
      | none => none
    | none => none
  | none => none
theorem mapM_gv {fr : Fr} {p : List (Nat × Bool)} : ∀ {l : List Operand} {vs : List Value}, l.mapM (gv fr p) = some vs → okO fr p l = true ∧ l.map (evG fr) = vs
  | [], vs, h => by simp at h; subst h; simp [okO]
  | x :: r, vs, h => by
    simp only [List.mapM_cons, Option.bind_eq_bind, Option.bind_eq_some_iff, Option.pure_def, Option.some.injEq] at h
    obtain ⟨v, hv, us, hu, rfl⟩ := h
    obtain ⟨h1, h2⟩ := gv_ok hv
    obtain ⟨h3, h4⟩ := mapM_gv hu
    refine ⟨?_, by simp [h2, h4]⟩
    cases x <;> simp_all [okO]
theorem okO_app {fr : Fr} {p : List (Nat × Bool)} : ∀ {l m : List Operand}, okO fr p l = true → okO fr p m = true → okO fr p (l ++ m) = true
  | [], _, _, h => h
  | x :: r, m, h, k => by
    cases x with
    | tmp t =>
      simp only [okO, Bool.and_eq_true, List.cons_append] at h ⊢
      exact ⟨h.1, okO_app h.2 k⟩
    | const v => exact okO_app (l := r) h k
    | global g => exact okO_app (l := r) h k
    | func f => exact okO_app (l := r) h k
theorem run_eql_pn {P : Program} {t e : TypeId} (h : P.underlying t = some (.pointer e)) (a : Option Addr) (w : World) : (binOp .eql t (.pointer a) (.pointer none)).run P w = .ok (.bool a.isNone) w :=
  run_eql_pointer_nil w t a (by simp [Program.pointee, h])
theorem run_neq_pn {P : Program} {t e : TypeId} (h : P.underlying t = some (.pointer e)) (a : Option Addr) (w : World) : (binOp .neq t (.pointer a) (.pointer none)).run P w = .ok (.bool (!a.isNone)) w :=
  run_neq_pointer_nil w t a (by simp [Program.pointee, h])
theorem run_equalIn_bool {P : Program} {t : TypeId} (h : P.underlying t = some .bool) (d : Nat) (a b : Bool) (w : World) : (Op.equalIn (d + 1) t (.bool a) (.bool b)).run P w = .ok (a == b) w := by
  simp [Op.equalIn, run_underlying h]
theorem run_eql_bb {P : Program} {t : TypeId} (h : P.underlying t = some .bool) (a b : Bool) (w : World) : (binOp .eql t (.bool a) (.bool b)).run P w = .ok (.bool (a == b)) w := by
  have h1 : (Op.equal t (.bool a) (.bool b)).run P w = .ok (a == b) w := run_equalIn_bool h 9999 a b w
  simp only [binOp]
  simp [h1]
theorem run_neq_bb {P : Program} {t : TypeId} (h : P.underlying t = some .bool) (a b : Bool) (w : World) : (binOp .neq t (.bool a) (.bool b)).run P w = .ok (.bool !(a == b)) w := by
  have h1 : (Op.equal t (.bool a) (.bool b)).run P w = .ok (a == b) w := run_equalIn_bool h 9999 a b w
  simp only [binOp]
  simp [h1]
section
variable {P : Program} {n : Nat} {fr : Fr} {w : World} {k : Kt} {ops : Array Oper} {rest : List Oper} {o : Oper}
theorem stepI_yl (S : World → Prop) (I : Info P) {d : Nat} {p : List (Nat × Bool)} {v : Value} (hst : stepI I n ops fr o = some (d, p, v)) : YldS P n ops fr S o d p v := by
  unfold stepI at hst
  split at hst
  · rename_i p' hp
    split at hst
    · rename_i d' hd
      split at hst
      · rename_i v' hv
        split at hst
        · rename_i hc
          cases hst
          simp only [Bool.and_eq_true] at hc
          obtain ⟨⟨hn, hf⟩, hfp⟩ := hc
          obtain ⟨dst, op, ty, pos, aft, gd⟩ := o
          simp only at hd hv
          subst hd
          cases op with
          | fieldAddr s x f =>
            simp only [valI] at hv
            split at hv
            · rename_i a hg
              split at hv
              · rename_i oo ho; cases hv
                obtain ⟨h1, h2⟩ := gv_ok hg
                exact yl_val hp rfl (by simpa [Op.operands] using h1) rfl hn hf hfp (fun _ _ _ => by simp [execOp, h2, I.fieldO_ok s f oo ho])
              · cases hv
            · cases hv
          | call c =>
            simp only [valI] at hv
            split at hv
            · rename_i x t h1 h2 h3
              split at hv
              · rename_i A m cc hg
                split at hv
                · rename_i hs; cases hv
                  obtain ⟨e, he⟩ := I.sliT_ok _ hs
                  obtain ⟨g1, g2⟩ := gv_ok hg
                  obtain ⟨cal, args, ats⟩ := c
                  simp only at h1 h2 h3
                  obtain rfl : args = #[x] := by rw [← Array.toArray_toList (xs := args), h2]
                  obtain rfl : ats = #[t] := by rw [← Array.toArray_toList (xs := ats), h3]
                  subst h1
                  exact yl_lenL hp g1 g2 he hn hf hfp
                · cases hv
              · cases hv
            · cases hv
          | binOp b t x y yt =>
            simp only [valI] at hv
            split at hv
            · rename_i a b' hx hy
              obtain ⟨h1, h2⟩ := gv_ok hx
              obtain ⟨h3, h4⟩ := gv_ok hy
              split at hv
              · rename_i ht
                obtain ⟨e, he⟩ := I.ptrT_ok _ ht
                split at hv
                · split at hv <;> first | (cases hv; done) | skip
                  all_goals
                    cases hv
                    refine yl_val hp rfl (by simpa [Op.operands] using okO_two h1 h3) rfl hn hf hfp (fun _ _ _ => ?_)
                    first | (simp [execOp, h2, h4, eqGuard, run_eql_pn he]; done) | (simp [execOp, h2, h4, eqGuard, run_neq_pn he]; done) | (simp [execOp, h2, h4, eqGuard, run_eql_bb he]; done) | (simp [execOp, h2, h4, eqGuard, run_neq_bb he]; done)
                · split at hv <;> first | (cases hv; done) | skip
                  all_goals
                    cases hv
                    refine yl_val hp rfl (by simpa [Op.operands] using okO_two h1 h3) rfl hn hf hfp (fun _ _ _ => ?_)
                    first | (simp [execOp, h2, h4, eqGuard, run_eql_pn he]; done) | (simp [execOp, h2, h4, eqGuard, run_neq_pn he]; done) | (simp [execOp, h2, h4, eqGuard, run_eql_bb he]; done) | (simp [execOp, h2, h4, eqGuard, run_neq_bb he]; done)
                · cases hv
              · cases hv
            · rename_i a b' hx hy
              obtain ⟨h1, h2⟩ := gv_ok hx
              obtain ⟨h3, h4⟩ := gv_ok hy
              split at hv
              · rename_i ht
                have he := I.boolT_ok _ ht
                split at hv <;> first | (cases hv; done) | skip
                all_goals
                  cases hv
                  refine yl_val hp rfl (by simpa [Op.operands] using okO_two h1 h3) rfl hn hf hfp (fun _ _ _ => ?_)
                  first | (simp [execOp, h2, h4, eqGuard, run_eql_pn he]; done) | (simp [execOp, h2, h4, eqGuard, run_neq_pn he]; done) | (simp [execOp, h2, h4, eqGuard, run_eql_bb he]; done) | (simp [execOp, h2, h4, eqGuard, run_neq_bb he]; done)
              · cases hv
            · cases hv
          | makeFunc fn first captured =>
            simp only [valI] at hv
            split at hv
            · rename_i f c hx hy; cases hv
              obtain ⟨h1, h2⟩ := mapM_gv hx
              obtain ⟨h3, h4⟩ := mapM_gv hy
              refine yl_val hp rfl (by simpa [Op.operands] using okO_app h1 h3) rfl hn hf hfp (fun _ _ _ => ?_)
              have e1 : first.map (evG fr) = f.toArray := Array.ext' (by rw [Array.toList_map, h2])
              have e2 : captured.map (evG fr) = c.toArray := Array.ext' (by rw [Array.toList_map, h4])
              simp [execOp, Instr.makeFunc, e1, e2]
            · cases hv
          | _ => simp [valI] at hv
        · cases hst
      · cases hst
    · cases hst
  · cases hst
theorem WL2 (I : Info P) {d : Nat} {p : List (Nat × Bool)} {v : Value} (hst : stepI I n ops fr o = some (d, p, v)) (h : WL P n ops rest ((d, p, v) :: fr) w k) : WL P n ops (o :: rest) fr w k := WL_yl (stepI_yl (fun _ => True) I hst) trivial h
end

section
variable {P : Program} {n : Nat} {fr : Fr} {w : World} {k : Kt} {ops : Array Oper} {rest : List Oper}
/-- A load of one cell. -/
theorem yl_ld {S : World → Prop} (I : Info P) {p : List (Nat × Bool)} {d : Nat} {x : Operand} {t ty : TypeId} {pos : String} {aft : Array Edge} {gd : Option (Nat × Bool)} {a : Addr} {v : Value}
    (hp : pathOf ops fr ⟨some d, .load t x, ty, pos, aft, gd⟩ = some p) (hx : gv fr p x = some (.pointer (some a))) (ht : I.sca t = true)
    (hck : (decide (d < n) && fresh d fr && freshP d p) = true) (hc : ∀ w, S w → w.cell? a = some v) : YldS P n ops fr S ⟨some d, .load t x, ty, pos, aft, gd⟩ d p v := by
  simp only [Bool.and_eq_true] at hck
  obtain ⟨h1, h2⟩ := gv_ok hx
  refine yl_val hp rfl (by simpa [Op.operands] using h1) rfl hck.1.1 hck.1.2 hck.2 (fun w hS _ => ?_)
  simp [execOp, h2, Instr.loadAt, Instr.sureAddr, loadVar, (I.sca_ok t ht w).1, hc w hS]
theorem WL_ld (I : Info P) {p : List (Nat × Bool)} {d : Nat} {x : Operand} {t ty : TypeId} {pos : String} {aft : Array Edge} {gd : Option (Nat × Bool)} {a : Addr} {v : Value}
    (hp : pathOf ops fr ⟨some d, .load t x, ty, pos, aft, gd⟩ = some p) (hx : gv fr p x = some (.pointer (some a))) (ht : I.sca t = true)
    (hck : (decide (d < n) && fresh d fr && freshP d p) = true) (hc : w.cell? a = some v)
    (h : WL P n ops rest ((d, p, v) :: fr) w k) : WL P n ops (⟨some d, .load t x, ty, pos, aft, gd⟩ :: rest) fr w k := WL_yl (yl_ld I hp hx ht hck (S := fun w' => w' = w) (fun _ e => by subst e; exact hc)) rfl h
/-- A load of a struct's cells. -/
theorem yl_lda {S : World → Prop} (I : Info P) {p : List (Nat × Bool)} {d : Nat} {x : Operand} {t ty : TypeId} {pos : String} {aft : Array Edge} {gd : Option (Nat × Bool)} {a : Addr} {cs : List Value}
    (hp : pathOf ops fr ⟨some d, .load t x, ty, pos, aft, gd⟩ = some p) (hx : gv fr p x = some (.pointer (some a))) (ht : I.aggZ t = some cs.length)
    (hck : (decide (d < n) && fresh d fr && freshP d p) = true) (hc : ∀ w, S w → CellsAt w a cs) : YldS P n ops fr S ⟨some d, .load t x, ty, pos, aft, gd⟩ d p (.agg cs.toArray) := by
  simp only [Bool.and_eq_true] at hck
  obtain ⟨h1, h2⟩ := gv_ok hx
  refine yl_val hp rfl (by simpa [Op.operands] using h1) rfl hck.1.1 hck.1.2 hck.2 (fun w hS _ => ?_)
  obtain ⟨g1, g2⟩ := I.aggZ_ok t _ ht w
  simp [execOp, h2, Instr.loadAt, Instr.sureAddr, loadVar, g1, g2, run_loadCells_list (P := P) w a cs (hc w hS)]
theorem WL_lda (I : Info P) {p : List (Nat × Bool)} {d : Nat} {x : Operand} {t ty : TypeId} {pos : String} {aft : Array Edge} {gd : Option (Nat × Bool)} {a : Addr} {cs : List Value}
    (hp : pathOf ops fr ⟨some d, .load t x, ty, pos, aft, gd⟩ = some p) (hx : gv fr p x = some (.pointer (some a))) (ht : I.aggZ t = some cs.length)
    (hck : (decide (d < n) && fresh d fr && freshP d p) = true) (hc : CellsAt w a cs)
    (h : WL P n ops rest ((d, p, .agg cs.toArray) :: fr) w k) : WL P n ops (⟨some d, .load t x, ty, pos, aft, gd⟩ :: rest) fr w k := WL_yl (yl_lda I hp hx ht hck (S := fun w' => w' = w) (fun _ e => by subst e; exact hc)) rfl h
/-- An element's address. -/
theorem yl_ix {S : World → Prop} (I : Info P) {p : List (Nat × Bool)} {d : Nat} {x y : Operand} {t ty : TypeId} {pos : String} {aft : Array Edge} {gd : Option (Nat × Bool)} {a : Addr} {m c z : Nat} {kd : IntKind} {i : Int}
    (hp : pathOf ops fr ⟨some d, .indexAddr t x y, ty, pos, aft, gd⟩ = some p) (hx : gv fr p x = some (.slice (some a) m c)) (hy : gv fr p y = some (.int kd i)) (ht : I.elemZ t = some z)
    (hck : (decide (d < n) && fresh d fr && freshP d p) = true) (hr : satB fr p = true → 0 ≤ i ∧ i < m) : YldS P n ops fr S ⟨some d, .indexAddr t x y, ty, pos, aft, gd⟩ d p (.pointer (some (a.add (i.toNat * z)))) := by
  simp only [Bool.and_eq_true] at hck
  obtain ⟨h1, h2⟩ := gv_ok hx
  obtain ⟨h3, h4⟩ := gv_ok hy
  obtain ⟨e, he, hz⟩ := I.elemZ_ok t z ht
  refine yl_val hp rfl (by simpa [Op.operands] using okO_two h1 h3) rfl hck.1.1 hck.1.2 hck.2 (fun _ _ hs => ?_)
  have hr := hr hs
  simp [execOp, h2, h4, Instr.indexAt, asIntOf, run_underlying he, hr, hz]
theorem WL_ix (I : Info P) {p : List (Nat × Bool)} {d : Nat} {x y : Operand} {t ty : TypeId} {pos : String} {aft : Array Edge} {gd : Option (Nat × Bool)} {a : Addr} {m c z : Nat} {kd : IntKind} {i : Int}
    (hp : pathOf ops fr ⟨some d, .indexAddr t x y, ty, pos, aft, gd⟩ = some p) (hx : gv fr p x = some (.slice (some a) m c)) (hy : gv fr p y = some (.int kd i)) (ht : I.elemZ t = some z)
    (hck : (decide (d < n) && fresh d fr && freshP d p) = true) (hr : satB fr p = true → 0 ≤ i ∧ i < m)
    (h : WL P n ops rest ((d, p, .pointer (some (a.add (i.toNat * z)))) :: fr) w k) : WL P n ops (⟨some d, .indexAddr t x y, ty, pos, aft, gd⟩ :: rest) fr w k := WL_yl (yl_ix (S := fun _ => True) I hp hx hy ht hck hr) trivial h
/-- A slice's end cut off. -/
theorem WL_cutL (I : Info P) {p : List (Nat × Bool)} {d : Nat} {x y : Operand} {t ty : TypeId} {pos : String} {aft : Array Edge} {gd : Option (Nat × Bool)} {A : Option Addr} {m c z : Nat} {kd : IntKind} {i : Int}
    (hp : pathOf ops fr ⟨some d, .slice t x none (some y) none, ty, pos, aft, gd⟩ = some p) (hx : gv fr p x = some (.slice A m c)) (hy : gv fr p y = some (.int kd i)) (ht : I.elemZ t = some z)
    (hck : (decide (d < n) && fresh d fr && freshP d p) = true) (hr : satB fr p = true → 0 ≤ i ∧ i ≤ c)
    (h : WL P n ops rest ((d, p, .slice A i.toNat c) :: fr) w k) : WL P n ops (⟨some d, .slice t x none (some y) none, ty, pos, aft, gd⟩ :: rest) fr w k := by
  simp only [Bool.and_eq_true] at hck
  obtain ⟨h1, h2⟩ := gv_ok hx
  obtain ⟨h3, h4⟩ := gv_ok hy
  obtain ⟨e, he, hz⟩ := I.elemZ_ok t z ht
  refine WL_val hp rfl (by simpa [Op.operands] using okO_two h1 h3) rfl hck.1.1 hck.1.2 hck.2 (fun hs => ?_) h
  have hr := hr hs
  simp [execOp, h2, h4, Instr.sliceAt, Instr.slice, Instr.sliceBounds, Instr.sliceBound, asIntOf, run_underlying he, hr, hz]
  intro _
  cases A <;> simp [Addr.add]
/-- A new variable, its cells given. -/
theorem WL_new {p : List (Nat × Bool)} {d : Nat} {o : Oper} {t : TypeId} {cs : List Value} (hp : pathOf ops fr o = some p) (hs : noSel o.op = true) (hok : okO fr p o.op.operands.toList = true) (hsat : satB fr p = true) (hd : o.dst = some d)
    (hck : (decide (d < n) && fresh d fr) = true) (hrun : (execOp (evG fr) o).run P w = .ok (.value (.pointer (some ⟨w.heap.size, 0, none⟩))) (w.alloc (.cells cs.toArray t)))
    (h : ∀ g w1, g = w.heap.size → Blk w1 g t cs → Ext w w1 → WL P n ops rest ((d, [], .pointer (some ⟨g, 0, none⟩)) :: fr) w1 k) : WL P n ops (o :: rest) fr w k := by
  simp only [Bool.and_eq_true] at hck
  exact WL_op hp hs hok hsat hd hck.1 hck.2 hrun (h _ _ rfl (Blk.new w t cs) ((Below.refl _ _).alloc (Nat.le_refl _) _))
/-- A parameter is laid in memory. -/
theorem WL_box {p : List (Nat × Bool)} {d : Nat} {x : Operand} {t ty : TypeId} {pos : String} {aft : Array Edge} {gd : Option (Nat × Bool)} {v : Value} {cs : List Value}
    (hp : pathOf ops fr ⟨some d, .box t x, ty, pos, aft, gd⟩ = some p) (hx : gv fr p x = some v) (hcs : v.cells = cs.toArray) (hsat : satB fr p = true) (hck : (decide (d < n) && fresh d fr) = true)
    (h : ∀ g w1, g = w.heap.size → Blk w1 g t cs → Ext w w1 → WL P n ops rest ((d, [], .pointer (some ⟨g, 0, none⟩)) :: fr) w1 k) : WL P n ops (⟨some d, .box t x, ty, pos, aft, gd⟩ :: rest) fr w k := by
  obtain ⟨h1, h2⟩ := gv_ok hx
  refine WL_new hp rfl (by simpa [Op.operands] using h1) hsat rfl hck ?_ h
  simp [execOp, h2, Instr.box, newVar, newRow, hcs]
/-- A new variable, zero. -/
theorem WL_alloc (I : Info P) {p : List (Nat × Bool)} {d : Nat} {t ty : TypeId} {pos : String} {aft : Array Edge} {gd : Option (Nat × Bool)} {v : Value} {cs : List Value}
    (hp : pathOf ops fr ⟨some d, .alloc t, ty, pos, aft, gd⟩ = some p) (hz : I.zero t = some v) (hcs : v.cells = cs.toArray) (hsat : satB fr p = true) (hck : (decide (d < n) && fresh d fr) = true)
    (h : ∀ g w1, g = w.heap.size → Blk w1 g t cs → Ext w w1 → WL P n ops rest ((d, [], .pointer (some ⟨g, 0, none⟩)) :: fr) w1 k) : WL P n ops (⟨some d, .alloc t, ty, pos, aft, gd⟩ :: rest) fr w k := by
  refine WL_new hp rfl (by simp [Op.operands, okO]) hsat rfl hck ?_ h
  simp [execOp, Instr.alloc, I.zero_ok t v hz w, newVar, newRow, hcs]
/-- What a store of a block's cells leaves. -/
theorem upd_setRow (w : World) (g : Nat) (t : TypeId) (cs cs' : List Value) (h : Blk w g t cs) : Blk (w.setRow g cs'.toArray) g t cs' ∧ Upd g w (w.setRow g cs'.toArray) := by
  unfold Blk at h
  refine ⟨?_, rfl, rfl, rfl, ?_, ?_⟩
  · simp [Blk, World.setRow, Array.getElem?_modify, h]
  · simp [World.setRow]
  · intro j hj
    simp only [World.setRow, Array.getElem?_modify]
    rw [if_neg (by omega)]
/-- A store into one cell of a block of the call's own. -/
theorem WL_st (I : Info P) {p : List (Nat × Bool)} {x y : Operand} {t t' ty : TypeId} {pos : String} {aft : Array Edge} {gd : Option (Nat × Bool)} {g i : Nat} {v : Value} {cs : List Value}
    (hp : pathOf ops fr ⟨none, .store t x y, ty, pos, aft, gd⟩ = some p) (hx : gv fr p x = some (.pointer (some ⟨g, i, none⟩))) (hy : gv fr p y = some v) (ht : I.sca t = true) (h1 : v.oneCell' = true) (hsat : satB fr p = true)
    (hb : Blk w g t' cs) (hi : decide (i < cs.length) = true)
    (h : ∀ w1, Blk w1 g t' (setN cs i v) → Upd g w w1 → WL P n ops rest fr w1 k) : WL P n ops (⟨none, .store t x y, ty, pos, aft, gd⟩ :: rest) fr w k := by
  obtain ⟨hx1, hx2⟩ := gv_ok hx
  obtain ⟨hy1, hy2⟩ := gv_ok hy
  have hi' : i < cs.length := by simpa using hi
  have hcell : v.cells = #[v] := by cases v <;> first | rfl | cases h1
  have hst := run_storeCells_at (P := P) g i t' [v] 0 cs.toArray w hb (by simp; omega) (by simpa using h1)
  obtain ⟨hB, hU⟩ := upd_setRow w g t' cs (setN cs i v) hb
  have he : (cs.take (i + 0) ++ [v] ++ cs.drop (i + 0 + [v].length)) = setN cs i v := by
    rw [setN_eq, List.set_eq_take_append_cons_drop, if_pos hi']
    simp
  simp only [he] at hst
  refine WL_do hp rfl (by simpa [Op.operands] using okO_two hx1 hy1) hsat rfl (w' := w.setRow g (setN cs i v).toArray) ?_ (h _ hB hU)
  simp [execOp, hx2, hy2, Instr.storeAt, Instr.sureAddr, storeVar, hcell, (I.sca_ok t ht w).2, hst]
/-- A store of a whole struct over a block of the call's own. -/
theorem WL_sta (I : Info P) {p : List (Nat × Bool)} {x y : Operand} {t t' ty : TypeId} {pos : String} {aft : Array Edge} {gd : Option (Nat × Bool)} {g : Nat} {cs cs' : List Value}
    (hp : pathOf ops fr ⟨none, .store t x y, ty, pos, aft, gd⟩ = some p) (hx : gv fr p x = some (.pointer (some ⟨g, 0, none⟩))) (hy : gv fr p y = some (.agg cs'.toArray)) (ht : I.aggZ t = some cs'.length) (h1 : ∀ v ∈ cs', v.oneCell' = true) (hsat : satB fr p = true)
    (hb : Blk w g t' cs) (hl : cs.length = cs'.length)
    (h : ∀ w1, Blk w1 g t' cs' → Upd g w w1 → WL P n ops rest fr w1 k) : WL P n ops (⟨none, .store t x y, ty, pos, aft, gd⟩ :: rest) fr w k := by
  obtain ⟨hx1, hx2⟩ := gv_ok hx
  obtain ⟨hy1, hy2⟩ := gv_ok hy
  have hst := run_storeCells_at (P := P) g 0 t' cs' 0 cs.toArray w hb (by simp; omega) h1
  obtain ⟨hB, hU⟩ := upd_setRow w g t' cs cs' hb
  have he : (cs.take (0 + 0) ++ cs' ++ cs.drop (0 + 0 + cs'.length)) = cs' := by simp [← hl]
  simp only [he] at hst
  refine WL_do hp rfl (by simpa [Op.operands] using okO_two hx1 hy1) hsat rfl (w' := w.setRow g cs'.toArray) ?_ (h _ hB hU)
  simp [execOp, hx2, hy2, Instr.storeAt, Instr.sureAddr, storeVar, Value.cells, (I.aggZ_ok t _ ht w).2, hst]
end
end Go.Proofs.YtljcmmmajjmpoaaGreatDoor
