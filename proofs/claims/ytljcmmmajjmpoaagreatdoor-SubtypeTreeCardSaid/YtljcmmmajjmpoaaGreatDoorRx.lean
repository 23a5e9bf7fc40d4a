/- A way to walk a region by small frames: what is known of the slots is a list; an operation's run is asked of the model itself. -/
import Derived.Test.YtljcmmmajjmpoaaGreatDoorBase
import Derived.Shelf.Abstract
import Derived.Deep.LoopGhost
import Derived.OrdersHeld
namespace Go.Proofs.YtljcmmmajjmpoaaGreatDoor
open Go.RowKit Sp

/-- What is known of a slot: under which tests' answers it was written, and what it then holds. -/
abbrev Fr := List (Nat × List (Nat × Bool) × Value)
def getG : Fr → Nat → Option (List (Nat × Bool) × Value)
  | [], _ => none
  | (t, g) :: r, s => if t = s then some g else getG r s
def getV (fr : Fr) (t : Nat) : Value := match getG fr t with | some (_, v) => v | none => undef
def satB (fr : Fr) : List (Nat × Bool) → Bool
  | [] => true
  | (t, want) :: r => (match getV fr t with | .bool b => b == want | _ => false) && satB fr r
def inP (e : Nat × Bool) : List (Nat × Bool) → Bool
  | [] => false
  | x :: r => (decide (x.1 = e.1) && (x.2 == e.2)) || inP e r
def subP : List (Nat × Bool) → List (Nat × Bool) → Bool
  | [], _ => true
  | e :: r, p => inP e p && subP r p
/-- No path names the slot. -/
def freshP (d : Nat) : List (Nat × Bool) → Bool
  | [] => true
  | (t, _) :: r => (!decide (t = d)) && freshP d r
def fresh (d : Nat) : Fr → Bool
  | [] => true
  | (_, p, _) :: r => freshP d p && fresh d r
def evG (fr : Fr) : Operand → Value
  | .tmp t => getV fr t
  | .const v => v
  | .global g => .pointer (some ⟨g, 0, none⟩)
  | .func f => .func (.func f) #[] #[]
def okO (fr : Fr) (p : List (Nat × Bool)) : List Operand → Bool
  | [] => true
  | .tmp t :: r => (match getG fr t with | some (q, _) => subP q p | none => false) && okO fr p r
  | _ :: r => okO fr p r

/-- The slots hold what is said. -/
def Has (n : Nat) (fr : Fr) (a : Act) : Prop := a.tmps.size = n ∧ a.defers = [] ∧ ∀ t p v, getG fr t = some (p, v) → a.tmps[t]? = some (if satB fr p then v else undef)

theorem satB_inP {fr : Fr} {p : List (Nat × Bool)} (h : satB fr p = true) : ∀ e : Nat × Bool, inP e p = true → ∃ b, getV fr e.1 = .bool b ∧ b = e.2 := by
  induction p with
  | nil => intro e he; simp [inP] at he
  | cons x r ih =>
    obtain ⟨t, want⟩ := x
    intro e he
    simp only [satB, Bool.and_eq_true] at h
    simp only [inP, Bool.or_eq_true, Bool.and_eq_true, decide_eq_true_eq, beq_iff_eq] at he
    rcases he with ⟨h1, h2⟩ | he
    · subst h1; subst h2
      have h1 := h.1
      revert h1
      cases getV fr e.1 <;> simp
    · exact ih h.2 e he
theorem satB_sub {fr : Fr} {q p : List (Nat × Bool)} (h : satB fr p = true) (hs : subP q p = true) : satB fr q = true := by
  induction q with
  | nil => rfl
  | cons e r ih =>
    obtain ⟨t, want⟩ := e
    simp only [subP, Bool.and_eq_true] at hs
    obtain ⟨b, hb, hw⟩ := satB_inP h _ hs.1
    simp only [satB, Bool.and_eq_true]
    refine ⟨?_, ih hs.2⟩
    rw [hb]; simp [hw]
theorem getV_cons_ne {fr : Fr} {d t : Nat} {g : List (Nat × Bool) × Value} (h : ¬ d = t) : getV ((d, g) :: fr) t = getV fr t := by simp [getV, getG, h]
theorem satB_fresh {fr : Fr} {d : Nat} {g : List (Nat × Bool) × Value} {p : List (Nat × Bool)} (h : freshP d p = true) : satB ((d, g) :: fr) p = satB fr p := by
  induction p with
  | nil => rfl
  | cons x r ih =>
    obtain ⟨t, want⟩ := x
    simp only [freshP, Bool.and_eq_true, Bool.not_eq_true', decide_eq_false_iff_not] at h
    simp only [satB]
    rw [getV_cons_ne (fun e => h.1 e.symm), ih h.2]
theorem fresh_get {fr : Fr} {d : Nat} (h : fresh d fr = true) : ∀ t p v, getG fr t = some (p, v) → freshP d p = true := by
  induction fr with
  | nil => intro t p v hg; simp [getG] at hg
  | cons x r ih =>
    obtain ⟨s, q, u⟩ := x
    simp only [fresh, Bool.and_eq_true] at h
    intro t p v hg
    simp only [getG] at hg
    split at hg
    · cases hg; exact h.1
    · exact ih h.2 t p v hg
theorem Has.eval {n : Nat} {fr : Fr} {a : Act} (h : Has n fr a) {p : List (Nat × Bool)} (hp : satB fr p = true) : ∀ l : List Operand, okO fr p l = true → ∀ x ∈ l, a.eval x = evG fr x := by
  intro l
  induction l with
  | nil => intro _ x hx; cases hx
  | cons o r ih =>
    intro hok x hx
    cases o with
    | tmp t =>
      simp only [okO, Bool.and_eq_true] at hok
      rcases List.mem_cons.1 hx with rfl | hx
      · revert hok
        cases hg : getG fr t with
        | none => simp
        | some g =>
          obtain ⟨q, v⟩ := g
          intro hok
          have := h.2.2 t q v hg
          rw [satB_sub hp hok.1] at this
          simp only [Act.eval, evG, getV, hg]
          simp [Array.getD_eq_getD_getElem?, this]
      · exact ih hok.2 x hx
    | const v =>
      rcases List.mem_cons.1 hx with rfl | hx
      · rfl
      · exact ih hok x hx
    | global g =>
      rcases List.mem_cons.1 hx with rfl | hx
      · rfl
      · exact ih hok x hx
    | func f =>
      rcases List.mem_cons.1 hx with rfl | hx
      · rfl
      · exact ih hok x hx
theorem Has.put {n : Nat} {fr : Fr} {a : Act} (h : Has n fr a) {d : Nat} {p : List (Nat × Bool)} {v u : Value} (hd : d < n) (hf : fresh d fr = true) (hfp : freshP d p = true) (hu : u = if satB fr p then v else undef) :
    Has n ((d, p, v) :: fr) (a.put (some d) u) := by
  refine ⟨by simp [Act.put, h.1], by simp [Act.put, h.2.1], fun t q x hg => ?_⟩
  simp only [getG] at hg
  split at hg
  · rename_i e
    subst e
    cases hg
    rw [satB_fresh hfp, ← hu]
    simp [Act.put, h.1, hd]
  · rename_i e
    rw [satB_fresh (fresh_get hf t q x hg), ← h.2.2 t q x hg]
    simp only [Act.put]
    rw [Array.getElem?_setIfInBounds_ne e]

theorem map_eq {ρ ρ' : Operand → Value} {l : Array Operand} (h : ∀ x ∈ l.toList, ρ x = ρ' x) : l.map ρ = l.map ρ' :=
  Array.map_congr_left fun x hx => h x (Array.mem_toList_iff.2 hx)
theorem optmap_eq {ρ ρ' : Operand → Value} {l : Option Operand} (h : ∀ x ∈ l.toList, ρ x = ρ' x) : l.map ρ = l.map ρ' := by
  cases l with
  | none => rfl
  | some x => simp [h x (by simp)]
theorem resolve_congr {ρ ρ' : Operand → Value} (c : Call) (t : TypeId) (h : ∀ x ∈ c.operands.toList, ρ x = ρ' x) : resolve ρ c t = resolve ρ' c t := by
  have ha : c.args.map ρ = c.args.map ρ' := map_eq fun x hx => h x (by simp [Call.operands] at hx ⊢; exact Or.inr hx)
  unfold resolve
  cases hc : c.callee with
  | builtin b => simp only [ha]
  | invoke recv name =>
    have : ρ recv = ρ' recv := h recv (by simp [Call.operands, hc])
    simp only [ha, this]
  | value f =>
    have : ρ f = ρ' f := h f (by simp [Call.operands, hc])
    simp only [ha, this]
/-- No select. -/
def noSel : Op → Bool
  | .select .. => false
  | _ => true
/-- An operation's run hangs on its operands alone. -/
theorem execOp_congr {ρ ρ' : Operand → Value} (o : Oper) (hs : noSel o.op = true) (h : ∀ x ∈ o.op.operands.toList, ρ x = ρ' x) : execOp ρ o = execOp ρ' o := by
  obtain ⟨dst, op, ty, pos, aft, gd⟩ := o
  cases op with
  | call c =>
    have := resolve_congr c ty (by simpa [Op.operands] using h)
    simp only [execOp, this]
  | go c =>
    have := resolve_congr c ty (by simpa [Op.operands] using h)
    simp only [execOp, this]
  | defer c =>
    have := resolve_congr c ty (by simpa [Op.operands] using h)
    simp only [execOp, this]
  | build t parts =>
    have : (parts.map fun (i, x) => (i, ρ x)) = parts.map fun (i, x) => (i, ρ' x) := Array.map_congr_left fun x hx => by
      have := h x.2 (by simp [Op.operands]; exact ⟨x.1, hx⟩)
      simp [this]
    simp only [execOp, this]
  | buildSlice t l parts =>
    have : (parts.map fun (i, x) => (i, ρ x)) = parts.map fun (i, x) => (i, ρ' x) := Array.map_congr_left fun x hx => by
      have := h x.2 (by simp [Op.operands]; exact ⟨x.1, hx⟩)
      simp [this]
    simp only [execOp, this]
  | makeFunc fn first captured =>
    have h1 : first.map ρ = first.map ρ' := map_eq fun x hx => h x (by simp [Op.operands] at hx ⊢; exact Or.inl hx)
    have h2 : captured.map ρ = captured.map ρ' := map_eq fun x hx => h x (by simp [Op.operands] at hx ⊢; exact Or.inr hx)
    simp only [execOp, h1, h2]
  | makeMap t r =>
    have h1 : r.map ρ = r.map ρ' := optmap_eq fun x hx => h x (by simpa [Op.operands] using hx)
    simp only [execOp, h1]
  | slice t x lo hi mx =>
    have h0 : ρ x = ρ' x := h x (by simp [Op.operands])
    have h1 : lo.map ρ = lo.map ρ' := optmap_eq fun y hy => h y (by simp [Op.operands] at hy ⊢; exact Or.inr (Or.inl hy))
    have h2 : hi.map ρ = hi.map ρ' := optmap_eq fun y hy => h y (by simp [Op.operands] at hy ⊢; exact Or.inr (Or.inr (Or.inl hy)))
    have h3 : mx.map ρ = mx.map ρ' := optmap_eq fun y hy => h y (by simp [Op.operands] at hy ⊢; exact Or.inr (Or.inr (Or.inr hy)))
    simp only [execOp, h0, h1, h2, h3]
  | select cases_ b => exact absurd hs (by simp [noSel])
  | _ =>
    simp only [Op.operands] at h
    simp_all [execOp]

/-! ### Continuations -/
inductive Kt where
  | nil (Q : Exit → Act → World → Prop)
  | seq (y : Code) (k : Kt)
  | blk (id : Nat) (k : Kt)
  | fin (N : Act → World → Prop) (k : Kt)
  | jmp (l : Nat) (J : Act → World → Prop) (k : Kt)
def Kt.post (P : Program) : Kt → Exit → Act → World → Prop
  | .nil Q => Q
  | .seq y k => Exit.then (y.wp P (k.post P)) (k.post P)
  | .blk id k => Exit.inBlock id (k.post P)
  | .fin N k => Exit.then N (k.post P)
  | .jmp l J k => Exit.jump l J (k.post P)
def Kt.base : Kt → Exit → Act → World → Prop
  | .nil Q => Q
  | .seq _ k | .blk _ k | .fin _ k | .jmp _ _ k => k.base
theorem Kt.ret (P : Program) (k : Kt) (a : Act) (w : World) : k.post P .ret a w = k.base .ret a w := by
  induction k with
  | nil Q => rfl
  | seq y k ih => exact ih
  | blk id k ih => exact ih
  | fin N k ih => exact ih
  | jmp l J k ih => exact ih

section
variable (P : Program) (n : Nat)
/-- From here the code c comes to what stands behind it. -/
def W (c : Code) (fr : Fr) (w : World) (k : Kt) : Prop := ∀ a, Has n fr a → c.wp P (k.post P) a w
def WL (ops : Array Oper) (l : List Oper) (fr : Fr) (w : World) (k : Kt) : Prop := ∀ a, Has n fr a → wpList P ops (k.post P) l a w
/-- It goes on behind. -/
def WN (fr : Fr) (w : World) (k : Kt) : Prop := ∀ a, Has n fr a → k.post P .normal a w
def WX (id : Nat) (fr : Fr) (w : World) (k : Kt) : Prop := ∀ a, Has n fr a → k.post P (.exit id) a w
def WG (l : Nat) (fr : Fr) (w : World) (k : Kt) : Prop := ∀ a, Has n fr a → k.post P (.goto l) a w
end
section
variable {P : Program} {n : Nat} {fr : Fr} {w : World} {k : Kt}
theorem W_seq {x y : Code} (h : W P n x fr w (.seq y k)) : W P n (x.seq y) fr w k := fun a ha => wp_seq (h a ha)
theorem W_skip (h : WN P n fr w k) : W P n .skip fr w k := fun a ha => wp_skip (h a ha)
theorem W_label {l : Nat} (h : WN P n fr w k) : W P n (.label l) fr w k := fun a ha => wp_label (h a ha)
theorem W_exit {id : Nat} (h : WX P n id fr w k) : W P n (.exit id) fr w k := fun a ha => wp_exit (h a ha)
theorem W_goto {l : Nat} (h : WG P n l fr w k) : W P n (.goto l) fr w k := fun a ha => wp_goto (h a ha)
theorem W_ret (h : ∀ a, Has n fr a → k.base .ret a w) : W P n .ret fr w k := fun a ha => wp_ret (by rw [Kt.ret]; exact h a ha)
theorem W_block {id : Nat} {c : Code} (h : W P n c fr w (.blk id k)) : W P n (.block id c) fr w k := fun a ha => wp_block (h a ha)
theorem W_region {id : Nat} {l : List Oper} (h : WL P n l.toArray l fr w k) : W P n (.region id l.toArray false) fr w k := fun a ha => wp_region_lit (h a ha)
theorem W_cond {c : Operand} {x y : Code} {b : Bool} (hok : okO fr [] [c] = true) (hc : evG fr c = .bool b) (hx : b = true → W P n x fr w k) (hy : b = false → W P n y fr w k) : W P n (.cond c x y) fr w k :=
  fun a ha => wp_cond_split ((ha.eval rfl [c] hok c (by simp)).trans hc) (fun hb => hx hb a ha) (fun hb => hy hb a ha)
theorem W_true {c : Operand} {x y : Code} (hok : okO fr [] [c] = true) (hc : evG fr c = .bool true) (hx : W P n x fr w k) : W P n (.cond c x y) fr w k :=
  W_cond hok hc (fun _ => hx) (fun h => by cases h)
theorem W_false {c : Operand} {x y : Code} (hok : okO fr [] [c] = true) (hc : evG fr c = .bool false) (hy : W P n y fr w k) : W P n (.cond c x y) fr w k :=
  W_cond hok hc (fun h => by cases h) (fun _ => hy)
theorem WN_seq {y : Code} (h : W P n y fr w k) : WN P n fr w (.seq y k) := fun a ha => h a ha
theorem WN_blk {id : Nat} (h : WN P n fr w k) : WN P n fr w (.blk id k) := fun a ha => h a ha
theorem WN_jmp {l : Nat} {J : Act → World → Prop} (h : WN P n fr w k) : WN P n fr w (.jmp l J k) := fun a ha => h a ha
theorem WN_fin {N : Act → World → Prop} (h : ∀ a, Has n fr a → N a w) : WN P n fr w (.fin N k) := fun a ha => h a ha
theorem WX_seq {id : Nat} {y : Code} (h : WX P n id fr w k) : WX P n id fr w (.seq y k) := fun a ha => h a ha
theorem WX_fin {id : Nat} {N : Act → World → Prop} (h : WX P n id fr w k) : WX P n id fr w (.fin N k) := fun a ha => h a ha
theorem WX_jmp {id l : Nat} {J : Act → World → Prop} (h : WX P n id fr w k) : WX P n id fr w (.jmp l J k) := fun a ha => h a ha
theorem WX_blk {id : Nat} (h : WN P n fr w k) : WX P n id fr w (.blk id k) := fun a ha => by
  show (if id = id then _ else _)
  rw [if_pos rfl]; exact h a ha
theorem WX_out {id id' : Nat} (hne : decide (id = id') = false) (h : WX P n id fr w k) : WX P n id fr w (.blk id' k) := fun a ha => by
  show (if id = id' then _ else _)
  rw [if_neg (by simpa using hne)]; exact h a ha
theorem WG_seq {l : Nat} {y : Code} (h : WG P n l fr w k) : WG P n l fr w (.seq y k) := fun a ha => h a ha
theorem WG_blk {l id : Nat} (h : WG P n l fr w k) : WG P n l fr w (.blk id k) := fun a ha => h a ha
theorem WG_fin {l : Nat} {N : Act → World → Prop} (h : WG P n l fr w k) : WG P n l fr w (.fin N k) := fun a ha => h a ha
theorem WG_jmp {l : Nat} {J : Act → World → Prop} (h : ∀ a, Has n fr a → J a w) : WG P n l fr w (.jmp l J k) := fun a ha => ⟨rfl, h a ha⟩

/-! ### A list of operations -/
section
variable {ops : Array Oper} {rest : List Oper} {o : Oper}
theorem WL_nil (h : WN P n fr w k) : WL P n ops [] fr w k := fun a ha => wpList_nil (h a ha)
def pathOf (ops : Array Oper) (fr : Fr) (o : Oper) : Option (List (Nat × Bool)) := match o.guard with
  | none => some []
  | some (j, want) => match (ops[j]?).bind (·.dst) with
    | some dj => match getG fr dj with
      | some (pj, _) => some ((dj, want) :: pj)
      | none => none
    | none => none
theorem wanted_path {a : Act} (ha : Has n fr a) {p : List (Nat × Bool)} (hp : pathOf ops fr o = some p) : Region.wanted o (yielded ops a.tmps) = satB fr p := by
  unfold pathOf at hp
  unfold Region.wanted
  cases hg : o.guard with
  | none => rw [hg] at hp; cases hp; rfl
  | some g =>
    obtain ⟨j, want⟩ := g
    rw [hg] at hp
    simp only at hp ⊢
    unfold yielded
    cases hj : (ops[j]?).bind (·.dst) with
    | none => rw [hj] at hp; cases hp
    | some dj =>
      rw [hj] at hp
      simp only at hp
      cases hgg : getG fr dj with
      | none => rw [hgg] at hp; cases hp
      | some g =>
        obtain ⟨pj, vj⟩ := g
        rw [hgg] at hp
        cases hp
        have h1 := ha.2.2 dj pj vj hgg
        simp only [Option.bind_some, h1, satB, getV, hgg]
        cases hs : satB fr pj
        · simp [undef]
        · simp only [if_true, Bool.and_true]
          cases vj <;> simp
/-- One operation, whatever it does: it yields v and leaves w'. -/
theorem WL_op {p : List (Nat × Bool)} {d : Nat} {v : Value} {w' : World} (hp : pathOf ops fr o = some p) (hs : noSel o.op = true) (hok : okO fr p o.op.operands.toList = true) (hsat : satB fr p = true)
    (hd : o.dst = some d) (hn : decide (d < n) = true) (hf : fresh d fr = true) (hrun : (execOp (evG fr) o).run P w = .ok (.value v) w')
    (h : WL P n ops rest ((d, [], v) :: fr) w' k) : WL P n ops (o :: rest) fr w k := fun a ha => by
  refine wpList_step fun K hK => ?_
  rw [wanted_path ha hp, hsat, if_pos rfl]
  unfold Oper.wp
  rw [execOp_congr o hs (ha.eval hsat _ hok), hrun, Oper.upon_value, hd]
  exact hK _ _ (h _ (ha.put (by simpa using hn) hf rfl rfl))
/-- .. it yields nothing. -/
theorem WL_do {p : List (Nat × Bool)} {w' : World} (hp : pathOf ops fr o = some p) (hs : noSel o.op = true) (hok : okO fr p o.op.operands.toList = true) (hsat : satB fr p = true)
    (hd : o.dst = none) (hrun : (execOp (evG fr) o).run P w = .ok .skip w')
    (h : WL P n ops rest fr w' k) : WL P n ops (o :: rest) fr w k := fun a ha => by
  refine wpList_step fun K hK => ?_
  rw [wanted_path ha hp, hsat, if_pos rfl]
  unfold Oper.wp
  rw [execOp_congr o hs (ha.eval hsat _ hok), hrun, Oper.upon_skip, hd]
  exact hK _ _ (h _ ha)
/-- It is not done. -/
theorem WL_not {p : List (Nat × Bool)} {d : Nat} (hp : pathOf ops fr o = some p) (hsat : satB fr p = false) (hd : o.dst = some d) (hn : decide (d < n) = true) (hf : fresh d fr = true)
    (h : WL P n ops rest ((d, [], undef) :: fr) w k) : WL P n ops (o :: rest) fr w k := fun a ha => by
  refine wpList_step fun K hK => ?_
  rw [wanted_path ha hp, hsat, if_neg (by simp), hd]
  exact hK _ _ (h _ (ha.put (by simpa using hn) hf rfl rfl))
/-- What a quiet operation yields, in every world that meets S. -/
structure YldS (P : Program) (n : Nat) (ops : Array Oper) (fr : Fr) (S : World → Prop) (o : Oper) (d : Nat) (p : List (Nat × Bool)) (v : Value) : Prop where
  hd : o.dst = some d
  hn : decide (d < n) = true
  hf : fresh d fr = true
  hfp : freshP d p = true
  yl : ∀ a, Has n fr a → YieldsIf P ops S o (if satB fr p then v else undef) a
theorem WL_yl {S : World → Prop} {p : List (Nat × Bool)} {d : Nat} {v : Value} (hy : YldS P n ops fr S o d p v) (hS : S w) (h : WL P n ops rest ((d, p, v) :: fr) w k) : WL P n ops (o :: rest) fr w k := fun a ha => by
  refine wpList_step fun K hK => ?_
  have hput := hK _ _ (h _ (ha.put (by simpa using hy.hn) hy.hf hy.hfp rfl))
  rcases hy.yl a ha with ⟨hw, hr⟩ | ⟨hw, hv⟩
  · rw [hw, if_pos rfl]
    unfold Oper.wp
    rw [hr w hS, Oper.upon_value, hy.hd]
    exact hput
  · rw [hw, if_neg (by simp), hy.hd]
    rw [hv] at hput
    exact hput
theorem yl_val {S : World → Prop} {p : List (Nat × Bool)} {d : Nat} {v : Value} (hp : pathOf ops fr o = some p) (hs : noSel o.op = true) (hok : okO fr p o.op.operands.toList = true)
    (hd : o.dst = some d) (hn : decide (d < n) = true) (hf : fresh d fr = true) (hfp : freshP d p = true) (hrun : ∀ w, S w → satB fr p = true → (execOp (evG fr) o).run P w = .ok (.value v) w) : YldS P n ops fr S o d p v :=
  ⟨hd, hn, hf, hfp, fun a ha => by
    unfold YieldsIf
    rw [wanted_path ha hp]
    cases hsat : satB fr p
    · exact .inr ⟨rfl, rfl⟩
    · refine .inl ⟨rfl, fun w hS => ?_⟩
      rw [execOp_congr o hs (ha.eval hsat _ hok), hrun w hS hsat]
      rfl⟩
/-- One that turns nothing, under a test or not. -/
theorem WL_val {p : List (Nat × Bool)} {d : Nat} {v : Value} (hp : pathOf ops fr o = some p) (hs : noSel o.op = true) (hok : okO fr p o.op.operands.toList = true)
    (hd : o.dst = some d) (hn : decide (d < n) = true) (hf : fresh d fr = true) (hfp : freshP d p = true) (hrun : satB fr p = true → (execOp (evG fr) o).run P w = .ok (.value v) w)
    (h : WL P n ops rest ((d, p, v) :: fr) w k) : WL P n ops (o :: rest) fr w k := WL_yl (S := fun w' => w' = w) (yl_val hp hs hok hd hn hf hfp (fun _ e => by subst e; exact hrun)) rfl h
/-- A call of a function. -/
theorem WL_call {p : List (Nat × Bool)} {d f : Nat} {args : List Operand} {ts : Array TypeId} {ty : TypeId} {pos : String} {aft : Array Edge} {gd : Option (Nat × Bool)} {vs : List Value} {R : Ending → World → Prop}
    (hp : pathOf ops fr ⟨some d, .call { callee := .value (.func f), args := args.toArray, argTypes := ts }, ty, pos, aft, gd⟩ = some p) (hok : okO fr p args = true) (hsat : satB fr p = true)
    (hn : decide (d < n) = true) (hf : fresh d fr = true) (hen : Enters P f) (hvs : args.map (evG fr) = vs) (hc : Calls P f vs.toArray w R)
    (h : ∀ e w', R e w' → ∃ v, e = .returned v ∧ WL P n ops rest ((d, [], v) :: fr) w' k) :
    WL P n ops (⟨some d, .call { callee := .value (.func f), args := args.toArray, argTypes := ts }, ty, pos, aft, gd⟩ :: rest) fr w k := fun a ha => by
  refine wpList_step fun K hK => ?_
  rw [wanted_path ha hp, hsat, if_pos rfl]
  unfold Oper.wp
  have he : (execOp a.eval ⟨some d, .call { callee := .value (.func f), args := args.toArray, argTypes := ts }, ty, pos, aft, gd⟩).run P w = .ok (.enter f vs.toArray) w := by
    have hm : args.map a.eval = vs := by
      rw [← hvs]
      exact List.map_congr_left fun x hx => ha.eval hsat _ hok x hx
    simp only [execOp, resolve, Sem.run_bind, List.map_toArray, hm]
    simp [Deferred.ofValue, Act.eval, invoke, hen _ w]
  rw [he, Oper.upon_enter]
  refine hc.mono fun e w' hR => ?_
  obtain ⟨v, rfl, hw⟩ := h e w' hR
  exact hK _ _ (hw _ (ha.put (by simpa using hn) hf rfl rfl))
end
end

def frArgs : Nat → List Value → Fr
  | _, [] => []
  | i, v :: r => (i, [], v) :: frArgs (i + 1) r
theorem frArgs_get : ∀ (l : List Value) (i t : Nat) (p : List (Nat × Bool)) (v : Value), getG (frArgs i l) t = some (p, v) → p = [] ∧ i ≤ t ∧ l[t - i]? = some v
  | [], _, _, _, _, h => by simp [frArgs, getG] at h
  | x :: r, i, t, p, v, h => by
    simp only [frArgs, getG] at h
    split at h
    · rename_i e; subst e; cases h; simp
    · rename_i e
      obtain ⟨h1, h2, h3⟩ := frArgs_get r (i + 1) t p v h
      refine ⟨h1, by omega, ?_⟩
      rw [show t - i = (t - (i + 1)) + 1 by omega]
      simpa using h3
/-- A call is entered. -/
theorem calls_W {P : Program} {f n : Nat} {fn : Func} {c : Code} {args : List Value} {w : World} {R : Ending → World → Prop} (hf : P.funcs[f]? = some fn) (hb : fn.body = some c) (hn : fn.ntmps = n) (hl : decide (args.length ≤ n) = true)
    (h : W P n c (frArgs 0 args) w (.nil (bodyPost P fn R))) : Calls P f args.toArray w R := by
  subst hn
  refine calls_of_wp hf hb (h _ ⟨?_, rfl, ?_⟩)
  · simp at hl ⊢; omega
  · intro t p v hg
    obtain ⟨rfl, _, h3⟩ := frArgs_get args 0 t p v hg
    simp only [Nat.sub_zero] at h3
    have hlt : t < args.length := by
      rcases Nat.lt_or_ge t args.length with h | h
      · exact h
      · rw [List.getElem?_eq_none h] at h3; cases h3
    rw [List.getElem?_eq_getElem hlt] at h3
    simp [satB, Array.getElem?_append, hlt, Option.some.inj h3]
/-- What is known of the slots is left to a shorter list. -/
def subF (fr : Fr) : Fr → Prop
  | [] => True
  | (t, _, v) :: r => getG fr t = some ([], v) ∧ subF fr r
def plainF : Fr → Bool
  | [] => true
  | (_, p, _) :: r => p.isEmpty && plainF r
theorem Has.sub {n : Nat} {fr fr' : Fr} {a : Act} (h : Has n fr a) (hp : plainF fr' = true) (hs : subF fr fr') : Has n fr' a := by
  refine ⟨h.1, h.2.1, ?_⟩
  induction fr' with
  | nil => intro t p v hg; simp [getG] at hg
  | cons x r ih =>
    obtain ⟨s, q, u⟩ := x
    simp only [plainF, Bool.and_eq_true] at hp
    intro t p v hg
    simp only [getG] at hg
    split at hg
    · rename_i e
      subst e
      have hq : q = [] := by simpa using hp.1
      cases hg
      subst hq
      exact h.2.2 s [] _ hs.1
    · have := ih hp.2 hs.2 t p v hg
      have hall : ∀ (r : Fr) (t : Nat) (p : List (Nat × Bool)) (v : Value), plainF r = true → getG r t = some (p, v) → p = [] := by
        intro r
        induction r with
        | nil => intro t p v _ hg; simp [getG] at hg
        | cons y r ihr =>
          obtain ⟨s, q, u⟩ := y
          intro t p v hpl hg
          simp only [plainF, Bool.and_eq_true] at hpl
          simp only [getG] at hg
          split at hg
          · cases hg; simpa using hpl.1
          · exact ihr t p v hpl.2 hg
      have hp0 := hall r t p v hp.2 hg
      subst hp0
      simpa [satB] using this
theorem W_sub {P : Program} {n : Nat} {fr : Fr} {w : World} {k : Kt} {c : Code} (fr' : Fr) (hp : plainF fr' = true) (hs : subF fr fr') (h : W P n c fr' w k) : W P n c fr w k := fun a ha => h a (ha.sub hp hs)
theorem WN_sub {P : Program} {n : Nat} {fr : Fr} {w : World} {k : Kt} (fr' : Fr) (hp : plainF fr' = true) (hs : subF fr fr') (h : WN P n fr' w k) : WN P n fr w k := fun a ha => h a (ha.sub hp hs)
/-- What a round leaves. -/
def RoundN {ι : Type} (n : Nat) (F : ι → Fr) (R : ι → World → Prop) (m : ι → Nat) (b : Nat) : Act → World → Prop := fun a' w' => ∃ x', m x' < b ∧ R x' w' ∧ Has n (F x') a'
def MeetN {ι : Type} (n : Nat) (F : ι → Fr) (R : ι → World → Prop) : Act → World → Prop := fun a' w' => ∃ x', R x' w' ∧ Has n (F x') a'
/-- A loop: x tells a round, m x how many may come yet. -/
theorem W_loop {P : Program} {n : Nat} {fr : Fr} {w : World} {k : Kt} {c : Code} {ι : Type} (F : ι → Fr) (R : ι → World → Prop) (m : ι → Nat) (x0 : ι) (hp : ∀ x, plainF (F x) = true) (hs : subF fr (F x0)) (h0 : R x0 w)
    (round : ∀ x w, R x w → W P n c (F x) w (.fin (RoundN n F R m (m x)) k)) : W P n (.loop c) fr w k := fun _ ha => by
  refine wp_loop_ghost (fun j a w => ∃ x, m x = j ∧ R x w ∧ Has n (F x) a) (m x0) ⟨x0, rfl, h0, ha.sub (hp x0) hs⟩ ?_
  rintro j a w ⟨x, rfl, hR, hx⟩
  refine wp_mono (round x w hR a hx) fun e a' w' hq => ?_
  cases e with
  | normal => obtain ⟨x', h1, h2, h3⟩ := hq; exact ⟨m x', h1, x', rfl, h2, h3⟩
  | exit id => exact hq
  | goto l => exact hq
  | ret => exact hq
  | panic ch => exact hq
  | outgrown => exact hq
/-- A label that is jumped back to. -/
theorem W_scope {P : Program} {n : Nat} {fr : Fr} {w : World} {k : Kt} {c rest : Code} {ι : Type} (l : Nat) (F : ι → Fr) (R : ι → World → Prop) (m : ι → Nat) (hf : findLabel c l = some (Code.skip.seq rest))
    (pass : ∀ x w, R x w → W P n rest (F x) w (.jmp l (RoundN n F R m (m x)) k))
    (first : (∀ x w, R x w → W P n rest (F x) w (.jmp l (MeetN n F R) k)) → W P n c fr w (.jmp l (MeetN n F R) k)) : W P n (.scope c) fr w k := fun a ha => by
  have key : ∀ (J : Act → World → Prop) (x : ι) (w : World), R x w → (∀ a' w', (∃ x', m x' < m x ∧ R x' w' ∧ Has n (F x') a') → J a' w') → W P n rest (F x) w (.jmp l J k) := by
    intro J x w hR hJ a ha
    refine wp_mono (pass x w hR a ha) fun e a' w' q => ?_
    cases e with
    | goto l' => exact ⟨q.1, hJ _ _ q.2⟩
    | normal => exact q
    | exit id => exact q
    | ret => exact q
    | panic ch => exact q
    | outgrown => exact q
  refine wp_scope_jumps l (fun a' w' => ∃ x', R x' w' ∧ Has n (F x') a') (fun a w => leastOf fun j => ∃ x, m x = j ∧ R x w ∧ Has n (F x) a) hf ?_ ?_
  · exact first (fun x w hR => key _ x w hR fun a' w' ⟨x', _, h⟩ => ⟨x', h⟩) a ha
  · rintro a w ⟨x, hR, hx⟩
    have hsp := leastOf_spec (p := fun j => ∃ x, m x = j ∧ R x w ∧ Has n (F x) a) ⟨m x, x, rfl, hR, hx⟩
    obtain ⟨y, hy, hRy, hHy⟩ := hsp.1
    refine wp_seq (wp_skip ?_)
    refine wp_mono (pass y w hRy a hHy) fun e a' w' q => ?_
    cases e with
    | goto l' =>
      obtain ⟨hl, x', hlt, h1, h2⟩ := q
      refine ⟨hl, ⟨x', h1, h2⟩, ?_⟩
      have := (leastOf_spec (p := fun j => ∃ x, m x = j ∧ R x w' ∧ Has n (F x) a') ⟨m x', x', rfl, h1, h2⟩).2 (m x') ⟨x', rfl, h1, h2⟩
      omega
    | normal => exact q
    | exit id => exact q
    | ret => exact q
    | panic ch => exact q
    | outgrown => exact q
/-- Ways meet again. -/
theorem W_cut {P : Program} {n : Nat} {fr : Fr} {w : World} {k : Kt} {c y : Code} {ι : Type} (F : ι → Fr) (R : ι → World → Prop) (h : W P n c fr w (.fin (MeetN n F R) k))
    (go : ∀ x w, R x w → W P n y (F x) w k) : W P n c fr w (.seq y k) := fun _ ha => wp_mono (h _ ha) fun e a' w' hq => by
  cases e with
  | normal => obtain ⟨x, h1, h2⟩ := hq; exact go x w' h1 a' h2
  | exit id => exact hq
  | goto l => exact hq
  | ret => exact hq
  | panic ch => exact hq
  | outgrown => exact hq
def baseK : Kt → Option (Exit → Act → World → Prop)
  | .nil Q => some Q
  | .seq _ k | .blk _ k | .fin _ k | .jmp _ _ k => baseK k
theorem baseK_eq : ∀ {k : Kt} {Q : Exit → Act → World → Prop}, baseK k = some Q → k.base = Q
  | .nil _, _, h => by cases h; rfl
  | .seq _ k, _, h => baseK_eq (k := k) h
  | .blk _ k, _, h => baseK_eq (k := k) h
  | .fin _ k, _, h => baseK_eq (k := k) h
  | .jmp _ _ k, _, h => baseK_eq (k := k) h
/-- return, the results in slots. -/
theorem W_ret1 {P : Program} {n : Nat} {fr : Fr} {w : World} {k : Kt} {fn : Func} {R : Ending → World → Prop} {t : Nat} {v : Value} (hb : baseK k = some (bodyPost P fn R)) (hr : fn.results = #[.tmp t]) (hv : getG fr t = some ([], v)) (h : R (.returned v) w) :
    W P n .ret fr w k := W_ret fun _ ha => by
  rw [baseK_eq hb]
  refine bodyPost_ret (results_tmp hr _ _ _) ha.2.1 ?_
  have := ha.2.2 t [] v hv
  rw [Array.getD_eq_getD_getElem?, this]
  exact h
theorem W_ret2 {P : Program} {n : Nat} {fr : Fr} {w : World} {k : Kt} {fn : Func} {R : Ending → World → Prop} {t s : Nat} {v u : Value} (hb : baseK k = some (bodyPost P fn R)) (hr : fn.results = #[.tmp t, .tmp s]) (hv : getG fr t = some ([], v)) (hu : getG fr s = some ([], u))
    (h : R (.returned (.tuple #[v, u])) w) : W P n .ret fr w k := W_ret fun _ ha => by
  rw [baseK_eq hb]
  refine bodyPost_ret (results_tmp2 hr _ _ _) ha.2.1 ?_
  have h1 := ha.2.2 t [] v hv
  have h2 := ha.2.2 s [] u hu
  rw [Array.getD_eq_getD_getElem?, Array.getD_eq_getD_getElem?, h1, h2]
  exact h
end Go.Proofs.YtljcmmmajjmpoaaGreatDoor
