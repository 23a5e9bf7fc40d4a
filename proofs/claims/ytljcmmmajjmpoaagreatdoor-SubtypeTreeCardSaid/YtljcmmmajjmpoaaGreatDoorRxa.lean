/- The walk's rules for single operations: what each yields, in a form to go on with. -/
import Derived.Test.YtljcmmmajjmpoaaGreatDoorRx
namespace Go.Proofs.YtljcmmmajjmpoaaGreatDoor
open Go.RowKit Sp

abbrev bl (s : ByteArray) : L := s.data.toList
theorem bl_mk (l : L) : bl (mkS l) = l := rfl
/-- The byte at a place. -/
def byteAt (l : L) (i : Int) : Nat := ((l[i.toNat]?).getD 0).toNat
def cmpI (op : BinOp) (a b : Int) : Option Bool := match op with
  | .eql => some (a == b) | .neq => some (a != b) | .lss => some (decide (a < b)) | .leq => some (decide (a ≤ b)) | .gtr => some (decide (a > b)) | .geq => some (decide (a ≥ b))
  | _ => none
def nth : List Value → Nat → Option Value
  | [], _ => none
  | x :: r, i => match i with
    | 0 => some x
    | i + 1 => nth r i
theorem nth_eq : ∀ (l : List Value) (i : Nat), nth l i = l[i]?
  | [], _ => by simp [nth]
  | x :: r, 0 => by simp [nth]
  | x :: r, i + 1 => by simp [nth, nth_eq r i]
/-- What an operation on plain values yields. -/
def pureOp (ev : Operand → Value) : Op → Option Value
  | .move x | .assign x => some (ev x)
  | .unOp op _ x => match op, ev x with
    | .not, .bool b => some (.bool !b)
    | _, _ => none
  | .binOp op _ x y _ => match ev x, ev y with
    | .int k a, .int k' b => if k = k' then (cmpI op a b).map .bool else none
    | .string a, .string b => match op with
      | .eql => some (.bool (bl a == bl b)) | .neq => some (.bool !(bl a == bl b)) | .lss => some (.bool (Op.bytesLess (bl a) (bl b)))
      | .leq => some (.bool (Op.bytesLess (bl a) (bl b) || bl a == bl b))
      | .gtr => some (.bool !(Op.bytesLess (bl a) (bl b) || bl a == bl b)) | .geq => some (.bool !Op.bytesLess (bl a) (bl b))
      | _ => none
    | _, _ => none
  | .extract t i => match ev t with
    | .tuple vs => vs[i]?
    | _ => none
  | .nilCheck x => match ev x with
    | .pointer (some a) => some (.pointer (some a))
    | _ => none
  | _ => none
theorem run_ok (v : Value) (P : Program) (w : World) : (pure v : Sem Value).run P w = .ok v w := rfl
theorem pureOp_run {P : Program} {ev : Operand → Value} {o : Oper} {v : Value} (h : pureOp ev o.op = some v) (w : World) : (execOp ev o).run P w = .ok (.value v) w := by
  obtain ⟨dst, op, ty, pos, aft, gd⟩ := o
  cases op with
  | move x => cases h; rfl
  | assign x => cases h; rfl
  | unOp u t x =>
    simp only [pureOp] at h
    split at h
    · rename_i hx; cases h; simp only [execOp, hx]; rfl
    · cases h
  | extract t i =>
    simp only [pureOp] at h
    split at h
    · rename_i vs hx; simp only [execOp, hx, Instr.extract, h]; rfl
    · cases h
  | nilCheck x =>
    simp only [pureOp] at h
    split at h
    · rename_i a hx; cases h; simp only [execOp, hx]; rfl
    · cases h
  | binOp b t x y yt =>
    simp only [pureOp] at h
    split at h
    · rename_i k a k' c hx hy
      split at h
      · rename_i e
        subst e
        simp only [execOp, hx, hy]
        cases b <;> simp only [cmpI, Option.map_some, Option.map_none, reduceCtorEq, Option.some.injEq] at h <;> subst h <;> simp [binOp, Op.intCmp, eqGuard]
      · cases h
    · rename_i a c hx hy
      simp only [execOp, hx, hy]
      cases b <;> simp only [reduceCtorEq, Option.some.injEq] at h <;> subst h <;> simp [binOp, Op.stringOp, eqGuard, toList_mk, bl]
    · cases h
  | _ => simp [pureOp] at h

section
variable {P : Program} {n : Nat} {fr : Fr} {w : World} {k : Kt} {ops : Array Oper} {rest : List Oper} {o : Oper}
theorem yl_pure {S : World → Prop} {p : List (Nat × Bool)} {d : Nat} {v : Value} (hp : pathOf ops fr o = some p) (hv : pureOp (evG fr) o.op = some v) (hs : noSel o.op = true) (hok : okO fr p o.op.operands.toList = true)
    (hd : o.dst = some d) (hn : decide (d < n) = true) (hf : fresh d fr = true) (hfp : freshP d p = true) : YldS P n ops fr S o d p v := yl_val hp hs hok hd hn hf hfp (fun w _ _ => pureOp_run hv w)
/-- &&, ||: a pick. -/
theorem yl_pick {S : World → Prop} {p : List (Nat × Bool)} {d tc : Nat} {a b : Operand} {ty : TypeId} {pos : String} {aft : Array Edge} {gd : Option (Nat × Bool)} {cb x y : Bool}
    (hp : pathOf ops fr ⟨some d, .pick (.tmp tc) a b, ty, pos, aft, gd⟩ = some p) (hc : evG fr (.tmp tc) = .bool cb) (hokc : okO fr p [.tmp tc] = true)
    (hx : evG fr a = .bool x) (hoka : okO fr ((tc, true) :: p) [a] = true) (hy : evG fr b = .bool y) (hokb : okO fr ((tc, false) :: p) [b] = true)
    (hn : decide (d < n) = true) (hf : fresh d fr = true) (hfp : freshP d p = true) {r : Bool} (hr : (if cb then x else y) = r) : YldS P n ops fr S ⟨some d, .pick (.tmp tc) a b, ty, pos, aft, gd⟩ d p (.bool r) := ⟨rfl, hn, hf, hfp, fun ac ha => by
  unfold YieldsIf
  rw [wanted_path ha hp]
  cases hsat : satB fr p
  · exact .inr ⟨rfl, rfl⟩
  · refine .inl ⟨rfl, fun w _ => ?_⟩
    have hcv : getV fr tc = .bool cb := hc
    have e0 : ac.eval (.tmp tc) = .bool cb := (ha.eval hsat _ hokc _ (by simp)).trans hc
    have e1 : cb = true → ac.eval a = .bool x := fun hcb => (ha.eval (p := (tc, true) :: p) (by simp [satB, hcv, hcb, hsat]) _ hoka _ (by simp)).trans hx
    have e2 : cb = false → ac.eval b = .bool y := fun hcb => (ha.eval (p := (tc, false) :: p) (by simp [satB, hcv, hcb, hsat]) _ hokb _ (by simp)).trans hy
    simp only [execOp, e0]
    subst hr
    cases cb
    · simp [asBool, e2 rfl]
    · simp [asBool, e1 rfl]⟩
theorem pick_and {c x : Bool} : (if c then x else false) = (c && x) := by cases c <;> rfl
theorem pick_or {c x : Bool} : (if c then true else x) = (c || x) := by cases c <;> rfl
/-- + and - on an int. -/
theorem WL_add {p : List (Nat × Bool)} {d : Nat} {x y : Operand} {t yt ty : TypeId} {pos : String} {aft : Array Edge} {gd : Option (Nat × Bool)} {a b : Int}
    (hp : pathOf ops fr ⟨some d, .binOp .add t x y yt, ty, pos, aft, gd⟩ = some p) (hok : okO fr p [x, y] = true) (hx : evG fr x = .int .i64 a) (hy : evG fr y = .int .i64 b)
    (hn : decide (d < n) = true) (hf : fresh d fr = true) (hfp : freshP d p = true) (hr : satB fr p = true → -9223372036854775808 ≤ a + b ∧ a + b ≤ 9223372036854775807)
    (h : WL P n ops rest ((d, p, .int .i64 (a + b)) :: fr) w k) : WL P n ops (⟨some d, .binOp .add t x y yt, ty, pos, aft, gd⟩ :: rest) fr w k :=
  WL_val hp rfl hok rfl hn hf hfp (fun hs => by
    have := hr hs
    have hw : IntKind.i64.wrap (a + b) = a + b := IntWalk.i64_in _ (by omega)
    simp [execOp, hx, hy, binOp, eqGuard, Op.intArith, hw]) h
theorem WL_sub {p : List (Nat × Bool)} {d : Nat} {x y : Operand} {t yt ty : TypeId} {pos : String} {aft : Array Edge} {gd : Option (Nat × Bool)} {a b : Int}
    (hp : pathOf ops fr ⟨some d, .binOp .sub t x y yt, ty, pos, aft, gd⟩ = some p) (hok : okO fr p [x, y] = true) (hx : evG fr x = .int .i64 a) (hy : evG fr y = .int .i64 b)
    (hn : decide (d < n) = true) (hf : fresh d fr = true) (hfp : freshP d p = true) (hr : satB fr p = true → -9223372036854775808 ≤ a - b ∧ a - b ≤ 9223372036854775807)
    (h : WL P n ops rest ((d, p, .int .i64 (a - b)) :: fr) w k) : WL P n ops (⟨some d, .binOp .sub t x y yt, ty, pos, aft, gd⟩ :: rest) fr w k :=
  WL_val hp rfl hok rfl hn hf hfp (fun hs => by
    have := hr hs
    have hw : IntKind.i64.wrap (a - b) = a - b := IntWalk.i64_in _ (by omega)
    simp [execOp, hx, hy, binOp, eqGuard, Op.intArith, hw]) h
/-- len of a text. -/
theorem WL_lenS {p : List (Nat × Bool)} {d : Nat} {x : Operand} {t ty : TypeId} {pos : String} {aft : Array Edge} {gd : Option (Nat × Bool)} {s : ByteArray}
    (hp : pathOf ops fr ⟨some d, .call { callee := .builtin .len, args := #[x], argTypes := #[t] }, ty, pos, aft, gd⟩ = some p) (hok : okO fr p [x] = true) (hx : evG fr x = .string s) (ht : P.underlying t = some .string)
    (hn : decide (d < n) = true) (hf : fresh d fr = true) (hfp : freshP d p = true)
    {m : Nat} (he : (bl s).length = m) (h : WL P n ops rest ((d, p, .int .i64 (m : Nat)) :: fr) w k) : WL P n ops (⟨some d, .call { callee := .builtin .len, args := #[x], argTypes := #[t] }, ty, pos, aft, gd⟩ :: rest) fr w k :=
  WL_val hp rfl hok rfl hn hf hfp (fun _ => by
    rw [← he, show (bl s).length = s.size from (size_len s).symm]
    simp [execOp, resolve, invoke, builtin, hx, run_len_string w t ty s ht, goInt]) h
/-- len of a slice. -/
theorem yl_lenL {S : World → Prop} {p : List (Nat × Bool)} {d : Nat} {x : Operand} {t e ty : TypeId} {pos : String} {aft : Array Edge} {gd : Option (Nat × Bool)} {A : Option Addr} {m c : Nat}
    (hp : pathOf ops fr ⟨some d, .call { callee := .builtin .len, args := #[x], argTypes := #[t] }, ty, pos, aft, gd⟩ = some p) (hok : okO fr p [x] = true) (hx : evG fr x = .slice A m c) (ht : P.underlying t = some (.slice e))
    (hn : decide (d < n) = true) (hf : fresh d fr = true) (hfp : freshP d p = true) : YldS P n ops fr S ⟨some d, .call { callee := .builtin .len, args := #[x], argTypes := #[t] }, ty, pos, aft, gd⟩ d p (.int .i64 (m : Nat)) :=
  yl_val hp rfl hok rfl hn hf hfp (fun _ _ _ => by
    simp [execOp, resolve, invoke, builtin, hx, Builtin.len_, run_underlying ht, goInt])
/-- A byte of a text. -/
theorem WL_byte {p : List (Nat × Bool)} {d : Nat} {x y : Operand} {t ty : TypeId} {pos : String} {aft : Array Edge} {gd : Option (Nat × Bool)} {s : ByteArray} {kd : IntKind} {i : Int}
    (hp : pathOf ops fr ⟨some d, .index t x y, ty, pos, aft, gd⟩ = some p) (hok : okO fr p [x, y] = true) (hx : evG fr x = .string s) (hy : evG fr y = .int kd i) (ht : P.underlying t = some .string)
    (hn : decide (d < n) = true) (hf : fresh d fr = true) (hfp : freshP d p = true) (hr : satB fr p = true → 0 ≤ i ∧ i < (bl s).length) {b : Nat} (he : byteAt (bl s) i = b)
    (h : WL P n ops rest ((d, p, .int .u8 (b : Nat)) :: fr) w k) : WL P n ops (⟨some d, .index t x y, ty, pos, aft, gd⟩ :: rest) fr w k :=
  WL_val hp rfl hok rfl hn hf hfp (fun hs => by
    subst he
    have hr := hr hs
    have h2 : 0 ≤ i ∧ i < s.size := by rw [size_len]; exact hr
    have h3 : (s[i.toNat]'(by omega)).toNat = byteAt (bl s) i := by
      unfold byteAt
      rw [List.getElem?_eq_getElem (by have := size_len s; omega)]
      simp
      rfl
    simp only [execOp, hx, hy, Sem.run_bind, run_index_string w t s kd i ht, dif_pos h2, h3, Result.andThen_ok]
    rfl) h
end


theorem take_drop_ext (s : ByteArray) (a b : Nat) : Value.string (s.extract a b) = .string (mkS (((bl s).take b).drop a)) := by
  apply str_ext
  rw [ext_data, List.drop_take]
section
variable {P : Program} {n : Nat} {fr : Fr} {w : World} {k : Kt} {ops : Array Oper} {rest : List Oper}
theorem run_sliceAt_string {t : TypeId} (ht : P.underlying t = some .string) (x : Value) (a b c : Option Value) (w : World) : (Instr.sliceAt t x a b c).run P w = (Instr.slice t x a b c).run P w := by
  simp [Instr.sliceAt, run_underlying ht]
/-- s[i:]. -/
theorem WL_from {p : List (Nat × Bool)} {d : Nat} {x y : Operand} {t ty : TypeId} {pos : String} {aft : Array Edge} {gd : Option (Nat × Bool)} {s : ByteArray} {kd : IntKind} {i : Int}
    (hp : pathOf ops fr ⟨some d, .slice t x (some y) none none, ty, pos, aft, gd⟩ = some p) (hok : okO fr p [x, y] = true) (hx : evG fr x = .string s) (hy : evG fr y = .int kd i) (ht : P.underlying t = some .string)
    (hn : decide (d < n) = true) (hf : fresh d fr = true) (hfp : freshP d p = true) (hr : satB fr p = true → 0 ≤ i ∧ i ≤ (bl s).length) {r : L} (he : (bl s).drop i.toNat = r)
    (h : WL P n ops rest ((d, p, .string (mkS r)) :: fr) w k) : WL P n ops (⟨some d, .slice t x (some y) none none, ty, pos, aft, gd⟩ :: rest) fr w k :=
  WL_val hp rfl hok rfl hn hf hfp (fun hs => by
    subst he
    have hr := hr hs
    have h2 : i ≤ s.size := by rw [size_len]; exact hr.2
    have he := take_drop_ext s i.toNat s.size
    rw [List.take_of_length_le (by rw [size_len]; exact Nat.le_refl _)] at he
    simp only [execOp, hx, hy, Option.map_some, Option.map_none, Sem.run_bind, run_sliceAt_string ht, run_slice_string_l (P := P) w t s ht kd i hr.1 h2, he, Result.andThen_ok]
    rfl) h
/-- s[:j]. -/
theorem WL_upto {p : List (Nat × Bool)} {d : Nat} {x y : Operand} {t ty : TypeId} {pos : String} {aft : Array Edge} {gd : Option (Nat × Bool)} {s : ByteArray} {kd : IntKind} {i : Int}
    (hp : pathOf ops fr ⟨some d, .slice t x none (some y) none, ty, pos, aft, gd⟩ = some p) (hok : okO fr p [x, y] = true) (hx : evG fr x = .string s) (hy : evG fr y = .int kd i) (ht : P.underlying t = some .string)
    (hn : decide (d < n) = true) (hf : fresh d fr = true) (hfp : freshP d p = true) (hr : satB fr p = true → 0 ≤ i ∧ i ≤ (bl s).length) {r : L} (he : (bl s).take i.toNat = r)
    (h : WL P n ops rest ((d, p, .string (mkS r)) :: fr) w k) : WL P n ops (⟨some d, .slice t x none (some y) none, ty, pos, aft, gd⟩ :: rest) fr w k :=
  WL_val hp rfl hok rfl hn hf hfp (fun hs => by
    subst he
    have hr := hr hs
    have h2 : i ≤ s.size := by rw [size_len]; exact hr.2
    have he := take_drop_ext s 0 i.toNat
    rw [List.drop_zero] at he
    simp only [execOp, hx, hy, Option.map_some, Option.map_none, Sem.run_bind, run_sliceAt_string ht, run_slice_string_h (P := P) w t s ht kd i hr.1 h2, he, Result.andThen_ok]
    rfl) h
/-- s[i:j]. -/
theorem WL_part {p : List (Nat × Bool)} {d : Nat} {x y z : Operand} {t ty : TypeId} {pos : String} {aft : Array Edge} {gd : Option (Nat × Bool)} {s : ByteArray} {kd kd' : IntKind} {i j : Int}
    (hp : pathOf ops fr ⟨some d, .slice t x (some y) (some z) none, ty, pos, aft, gd⟩ = some p) (hok : okO fr p [x, y, z] = true) (hx : evG fr x = .string s) (hy : evG fr y = .int kd i) (hz : evG fr z = .int kd' j) (ht : P.underlying t = some .string)
    (hn : decide (d < n) = true) (hf : fresh d fr = true) (hfp : freshP d p = true) (hr : satB fr p = true → 0 ≤ i ∧ i ≤ j ∧ j ≤ (bl s).length) {r : L} (he : ((bl s).take j.toNat).drop i.toNat = r)
    (h : WL P n ops rest ((d, p, .string (mkS r)) :: fr) w k) : WL P n ops (⟨some d, .slice t x (some y) (some z) none, ty, pos, aft, gd⟩ :: rest) fr w k :=
  WL_val hp rfl hok rfl hn hf hfp (fun hs => by
    subst he
    have hr := hr hs
    have h2 : j ≤ s.size := by rw [size_len]; exact hr.2.2
    simp only [execOp, hx, hy, hz, Option.map_some, Option.map_none, Sem.run_bind, run_sliceAt_string ht, run_slice_string (P := P) w t s kd kd' i j ht hr.1 hr.2.1 h2, take_drop_ext, Result.andThen_ok]
    rfl) h
/-- A call of a function that turns nothing, under a test or not. -/
theorem WL_callq {p : List (Nat × Bool)} {d f : Nat} {args : List Operand} {ts : Array TypeId} {ty : TypeId} {pos : String} {aft : Array Edge} {gd : Option (Nat × Bool)} {vs : List Value} {v : Value}
    (hp : pathOf ops fr ⟨some d, .call { callee := .value (.func f), args := args.toArray, argTypes := ts }, ty, pos, aft, gd⟩ = some p) (hok : okO fr p args = true)
    (hn : decide (d < n) = true) (hf : fresh d fr = true) (hfp : freshP d p = true) (hen : Enters P f) (hvs : args.map (evG fr) = vs) (hc : satB fr p = true → Calls P f vs.toArray w fun e w' => e = .returned v ∧ w = w')
    (h : WL P n ops rest ((d, p, v) :: fr) w k) :
    WL P n ops (⟨some d, .call { callee := .value (.func f), args := args.toArray, argTypes := ts }, ty, pos, aft, gd⟩ :: rest) fr w k := fun a ha => by
  refine wpList_step fun K hK => ?_
  rw [wanted_path ha hp]
  cases hsat : satB fr p
  · rw [if_neg (by simp)]
    exact hK _ _ (h _ (ha.put (by simpa using hn) hf hfp (by simp [hsat])))
  · rw [if_pos rfl]
    unfold Oper.wp
    have he : (execOp a.eval ⟨some d, .call { callee := .value (.func f), args := args.toArray, argTypes := ts }, ty, pos, aft, gd⟩).run P w = .ok (.enter f vs.toArray) w := by
      have hm : args.map a.eval = vs := by
        rw [← hvs]
        exact List.map_congr_left fun x hx => ha.eval hsat _ hok x hx
      simp only [execOp, resolve, Sem.run_bind, List.map_toArray, hm]
      simp [Deferred.ofValue, Act.eval, invoke, hen _ w]
    rw [he, Oper.upon_enter]
    refine (hc hsat).mono fun e w' hR => ?_
    obtain ⟨rfl, rfl⟩ := hR
    exact hK _ _ (h _ (ha.put (by simpa using hn) hf hfp (by simp [hsat])))
end
/-! ### Several rules in one: what comes next is reckoned -/
/-- Where the code goes on at its normal end. -/
def nextK : Kt → Option (Code × Kt)
  | .seq y k => some (y, k)
  | .blk _ k => nextK k
  | .jmp _ _ k => nextK k
  | _ => none
def finK : Kt → Option (Act → World → Prop)
  | .fin N _ => some N
  | .blk _ k => finK k
  | .jmp _ _ k => finK k
  | _ => none
def exitK (id : Nat) : Kt → Option Kt
  | .seq _ k | .fin _ k | .jmp _ _ k => exitK id k
  | .blk id' k => if id = id' then some k else exitK id k
  | .nil _ => none
def gotoK (l : Nat) : Kt → Option (Act → World → Prop)
  | .seq _ k | .fin _ k | .blk _ k => gotoK l k
  | .jmp l' J _ => if l = l' then some J else none
  | .nil _ => none
def goW : Nat → Code → Kt → Option (Code × Kt)
  | 0, _, _ => none
  | f + 1, c, k => match c with
    | .seq x y => goW f x (.seq y k)
    | .block id c => goW f c (.blk id k)
    | .skip | .label _ => match nextK k with
      | some (y, k') => goW f y k'
      | none => none
    | .exit id => match exitK id k with
      | some k1 => match nextK k1 with
        | some (y, k') => goW f y k'
        | none => none
      | none => none
    | c => some (c, k)
def goF : Nat → Code → Kt → Option (Act → World → Prop)
  | 0, _, _ => none
  | f + 1, c, k => match c with
    | .seq x y => goF f x (.seq y k)
    | .block id c => goF f c (.blk id k)
    | .skip | .label _ => match nextK k with
      | some (y, k') => goF f y k'
      | none => finK k
    | .exit id => match exitK id k with
      | some k1 => match nextK k1 with
        | some (y, k') => goF f y k'
        | none => finK k1
      | none => none
    | .goto l => gotoK l k
    | _ => none
section
variable {P : Program} {n : Nat} {fr : Fr} {w : World}
theorem nextK_ok : ∀ {k : Kt} {y : Code} {k' : Kt}, nextK k = some (y, k') → W P n y fr w k' → WN P n fr w k
  | .seq _ _, _, _, h, hw => by cases h; exact WN_seq hw
  | .blk _ k, _, _, h, hw => WN_blk (nextK_ok (k := k) h hw)
  | .jmp _ _ k, _, _, h, hw => WN_jmp (nextK_ok (k := k) h hw)
  | .fin _ _, _, _, h, _ => by cases h
  | .nil _, _, _, h, _ => by cases h
theorem finK_ok : ∀ {k : Kt} {N : Act → World → Prop}, finK k = some N → (∀ a, Has n fr a → N a w) → WN P n fr w k
  | .fin _ _, _, h, hw => by cases h; exact WN_fin hw
  | .blk _ k, _, h, hw => WN_blk (finK_ok (k := k) h hw)
  | .jmp _ _ k, _, h, hw => WN_jmp (finK_ok (k := k) h hw)
  | .seq _ _, _, h, _ => by cases h
  | .nil _, _, h, _ => by cases h
theorem exitK_ok {id : Nat} : ∀ {k k' : Kt}, exitK id k = some k' → WN P n fr w k' → WX P n id fr w k
  | .seq _ k, _, h, hw => WX_seq (exitK_ok (k := k) h hw)
  | .fin _ k, _, h, hw => WX_fin (exitK_ok (k := k) h hw)
  | .jmp _ _ k, _, h, hw => WX_jmp (exitK_ok (k := k) h hw)
  | .blk id' k, _, h, hw => by
    unfold exitK at h
    split at h
    · rename_i e; subst e; cases h; exact WX_blk hw
    · rename_i e; exact WX_out (by simpa using e) (exitK_ok (k := k) h hw)
  | .nil _, _, h, _ => by cases h
theorem gotoK_ok {l : Nat} : ∀ {k : Kt} {J : Act → World → Prop}, gotoK l k = some J → (∀ a, Has n fr a → J a w) → WG P n l fr w k
  | .seq _ k, _, h, hw => WG_seq (gotoK_ok (k := k) h hw)
  | .fin _ k, _, h, hw => WG_fin (gotoK_ok (k := k) h hw)
  | .blk _ k, _, h, hw => WG_blk (gotoK_ok (k := k) h hw)
  | .jmp l' J k, _, h, hw => by
    unfold gotoK at h
    split at h
    · rename_i e; subst e; cases h; exact WG_jmp hw
    · cases h
  | .nil _, _, h, _ => by cases h
theorem goW_ok : ∀ {f : Nat} {c : Code} {k : Kt} {c' : Code} {k' : Kt}, goW f c k = some (c', k') → W P n c' fr w k' → W P n c fr w k
  | 0, _, _, _, _, h, _ => by cases h
  | f + 1, c, k, c', k', h, hw => by
    unfold goW at h
    split at h
    · exact W_seq (goW_ok h hw)
    · exact W_block (goW_ok h hw)
    · split at h
      · rename_i y k1 hn; exact W_skip (nextK_ok hn (goW_ok h hw))
      · cases h
    · split at h
      · rename_i y k1 hn; exact W_label (nextK_ok hn (goW_ok h hw))
      · cases h
    · split at h
      · rename_i k1 he
        split at h
        · rename_i y k2 hn; exact W_exit (exitK_ok he (nextK_ok hn (goW_ok h hw)))
        · cases h
      · cases h
    · cases h; exact hw
theorem goF_ok : ∀ {f : Nat} {c : Code} {k : Kt} {N : Act → World → Prop}, goF f c k = some N → (∀ a, Has n fr a → N a w) → W P n c fr w k
  | 0, _, _, _, h, _ => by cases h
  | f + 1, c, k, N, h, hw => by
    unfold goF at h
    split at h
    · exact W_seq (goF_ok h hw)
    · exact W_block (goF_ok h hw)
    · split at h
      · rename_i y k1 hn; exact W_skip (nextK_ok hn (goF_ok h hw))
      · exact W_skip (finK_ok h hw)
    · split at h
      · rename_i y k1 hn; exact W_label (nextK_ok hn (goF_ok h hw))
      · exact W_label (finK_ok h hw)
    · split at h
      · rename_i k1 he
        split at h
        · rename_i y k2 hn; exact W_exit (exitK_ok he (nextK_ok hn (goF_ok h hw)))
        · exact W_exit (exitK_ok he (finK_ok h hw))
      · cases h
    · exact W_goto (gotoK_ok h hw)
    · cases h
end

/-- One plain operation: its slot, its path, its value. -/
def gv (fr : Fr) (p : List (Nat × Bool)) : Operand → Option Value
  | .tmp t => match getG fr t with
    | some (q, v) => if subP q p then some v else none
    | none => none
  | .const v => some v
  | .func f => some (.func (.func f) #[] #[])
  | .global g => some (.pointer (some ⟨g, 0, none⟩))
def valOp (fr : Fr) (p : List (Nat × Bool)) : Op → Option Value
  | .move x | .assign x => gv fr p x
  | .unOp .not _ x => match gv fr p x with
    | some (.bool b) => some (.bool !b)
    | _ => none
  | .binOp op _ x y _ => match gv fr p x, gv fr p y with
    | some (.int k a), some (.int k' b) => if k = k' then (match op with
      | .eql => some (.bool (a == b)) | .neq => some (.bool (a != b)) | .lss => some (.bool (decide (a < b))) | .leq => some (.bool (decide (a ≤ b))) | .gtr => some (.bool (decide (a > b))) | .geq => some (.bool (decide (a ≥ b)))
      | _ => none) else none
    | some (.string a), some (.string b) => match op with
      | .eql => some (.bool (bl a == bl b)) | .neq => some (.bool !(bl a == bl b)) | .lss => some (.bool (Op.bytesLess (bl a) (bl b)))
      | .leq => some (.bool (Op.bytesLess (bl a) (bl b) || bl a == bl b))
      | .gtr => some (.bool !(Op.bytesLess (bl a) (bl b) || bl a == bl b)) | .geq => some (.bool !Op.bytesLess (bl a) (bl b))
      | _ => none
    | _, _ => none
  | .extract t i => match gv fr p t with
    | some (.tuple vs) => nth vs.toList i
    | _ => none
  | .nilCheck x => match gv fr p x with
    | some (.pointer (some a)) => some (.pointer (some a))
    | _ => none
  | .pick c a b => match c with
    | .tmp tc => match gv fr p (.tmp tc), gv fr ((tc, true) :: p) a, gv fr ((tc, false) :: p) b with
      | some (.bool cb), some (.bool x), some (.bool y) => match a, b with
        | .const (.bool true), _ => some (.bool (cb || y))
        | _, .const (.bool false) => some (.bool (cb && x))
        | _, _ => some (.bool (if cb then x else y))
      | _, _, _ => none
    | _ => none
  | _ => none
def stepV (n : Nat) (ops : Array Oper) (fr : Fr) (o : Oper) : Option (Nat × List (Nat × Bool) × Value) := match pathOf ops fr o with
  | some p => match o.dst with
    | some d => match valOp fr p o.op with
      | some v => if (decide (d < n) && fresh d fr && freshP d p) = true then some (d, p, v) else none
      | none => none
    | none => none
  | none => none
theorem gv_ok {fr : Fr} {p : List (Nat × Bool)} {x : Operand} {v : Value} (h : gv fr p x = some v) : okO fr p [x] = true ∧ evG fr x = v := by
  cases x with
  | tmp t =>
    simp only [gv] at h
    split at h
    · rename_i q u hg
      split at h
      · rename_i hs; cases h
        simp [okO, evG, getV, hg, hs]
      · cases h
    · cases h
  | const c => cases h; simp [okO, evG]
  | func f => cases h; simp [okO, evG]
  | global g => cases h; simp [okO, evG]
theorem okO_two {fr : Fr} {p : List (Nat × Bool)} {x y : Operand} (h1 : okO fr p [x] = true) (h2 : okO fr p [y] = true) : okO fr p [x, y] = true := by
  cases x <;> cases y <;> simp_all [okO]
section
variable {P : Program} {n : Nat} {fr : Fr} {w : World} {k : Kt} {ops : Array Oper} {rest : List Oper} {o : Oper}
/-- One plain operation. -/
theorem stepV_yl (S : World → Prop) {d : Nat} {p : List (Nat × Bool)} {v : Value} (hst : stepV n ops fr o = some (d, p, v)) : YldS P n ops fr S o d p v := by
  unfold stepV at hst
  split at hst
  · rename_i p' hp
    split at hst
    · rename_i d' hd
      split at hst
      · rename_i v' hv
        split at hst
        · rename_i hc
          cases hst
          simp only [Bool.and_eq_true] at hc
          obtain ⟨⟨hn, hf⟩, hfp⟩ := hc
          obtain ⟨dst, op, ty, pos, aft, gd⟩ := o
          simp only at hd hv
          subst hd
          cases op with
          | move x =>
            obtain ⟨h1, h2⟩ := gv_ok hv
            exact yl_pure hp (by simp [pureOp, h2]) rfl (by simpa [Op.operands] using h1) rfl hn hf hfp
          | assign x =>
            obtain ⟨h1, h2⟩ := gv_ok hv
            exact yl_pure hp (by simp [pureOp, h2]) rfl (by simpa [Op.operands] using h1) rfl hn hf hfp
          | unOp u t x =>
            cases u
            case not =>
              simp only [valOp] at hv
              split at hv
              · rename_i b hg; cases hv
                obtain ⟨h1, h2⟩ := gv_ok hg
                exact yl_pure hp (by simp [pureOp, h2]) rfl (by simpa [Op.operands] using h1) rfl hn hf hfp
              · cases hv
            all_goals simp [valOp] at hv
          | extract t i =>
            simp only [valOp] at hv
            split at hv
            · rename_i vs hg
              obtain ⟨h1, h2⟩ := gv_ok hg
              exact yl_pure hp (by simp only [pureOp, h2]; rw [← hv, nth_eq, Array.getElem?_toList]) rfl (by simpa [Op.operands] using h1) rfl hn hf hfp
            · cases hv
          | nilCheck x =>
            simp only [valOp] at hv
            split at hv
            · rename_i a hg; cases hv
              obtain ⟨h1, h2⟩ := gv_ok hg
              exact yl_pure hp (by simp [pureOp, h2]) rfl (by simpa [Op.operands] using h1) rfl hn hf hfp
            · cases hv
          | binOp b t x y yt =>
            simp only [valOp] at hv
            split at hv
            · rename_i k1 a k2 c hx hy
              obtain ⟨h1, h2⟩ := gv_ok hx
              obtain ⟨h3, h4⟩ := gv_ok hy
              split at hv
              · rename_i e; subst e
                refine yl_pure hp ?_ rfl (by simpa [Op.operands] using okO_two h1 h3) rfl hn hf hfp
                simp only [pureOp, h2, h4]
                cases b <;> simp_all [cmpI]
              · cases hv
            · rename_i a c hx hy
              obtain ⟨h1, h2⟩ := gv_ok hx
              obtain ⟨h3, h4⟩ := gv_ok hy
              refine yl_pure hp ?_ rfl (by simpa [Op.operands] using okO_two h1 h3) rfl hn hf hfp
              simp only [pureOp, h2, h4]
              cases b <;> simp_all
            · cases hv
          | pick c a b =>
            simp only [valOp] at hv
            split at hv
            · rename_i tc
              split at hv
              · rename_i cb x y hc ha hb
                obtain ⟨h1, h2⟩ := gv_ok hc
                obtain ⟨h3, h4⟩ := gv_ok ha
                obtain ⟨h5, h6⟩ := gv_ok hb
                split at hv
                · cases hv; cases ha; exact yl_pick hp h2 h1 h4 h3 h6 h5 hn hf hfp pick_or
                · cases hv; cases hb; exact yl_pick hp h2 h1 h4 h3 h6 h5 hn hf hfp pick_and
                · cases hv; exact yl_pick hp h2 h1 h4 h3 h6 h5 hn hf hfp rfl
              · cases hv
            · cases hv
          | _ => simp [valOp] at hv
        · cases hst
      · cases hst
    · cases hst
  · cases hst
theorem WL1 {d : Nat} {p : List (Nat × Bool)} {v : Value} (hst : stepV n ops fr o = some (d, p, v)) (h : WL P n ops rest ((d, p, v) :: fr) w k) : WL P n ops (o :: rest) fr w k := WL_yl (stepV_yl (fun _ => True) hst) trivial h
/-- A list's end: it goes on at the next region. -/
theorem WLe {y c : Code} {k' k'' : Kt} (hn : nextK k = some (y, k')) (hg : goW 200 y k' = some (c, k'')) (h : W P n c fr w k'') : WL P n ops [] fr w k := WL_nil (nextK_ok hn (goW_ok hg h))
theorem WLf {N : Act → World → Prop} (hn : finK k = some N) (h : ∀ a, Has n fr a → N a w) : WL P n ops [] fr w k := WL_nil (finK_ok hn h)
/-- .. at a label. -/
theorem WLlab {y : Code} {k' : Kt} {l : Nat} (hn : nextK k = some (.seq (.label l) y, k')) (fr' : Fr) (hp : plainF fr' = true) (hs : subF fr fr') (h : W P n y fr' w k') : WL P n ops [] fr w k := WL_nil (nextK_ok hn (W_seq (W_label (WN_seq (W_sub fr' hp hs h)))))
theorem Wg {c c' : Code} {k' : Kt} (hg : goW 200 c k = some (c', k')) (h : W P n c' fr w k') : W P n c fr w k := goW_ok hg h
/-- A round's end. -/
theorem WLr {ι : Type} {F : ι → Fr} {R : ι → World → Prop} {m : ι → Nat} {b : Nat} (hn : finK k = some (RoundN n F R m b)) (x' : ι) (hm : m x' < b) (hR : R x' w) (hp : plainF (F x') = true) (hs : subF fr (F x')) :
    WL P n ops [] fr w k := WLf hn fun _ ha => ⟨x', hm, hR, ha.sub hp hs⟩
theorem Wr {c : Code} {ι : Type} {F : ι → Fr} {R : ι → World → Prop} {m : ι → Nat} {b : Nat} (hn : goF 200 c k = some (RoundN n F R m b)) (x' : ι) (hm : m x' < b) (hR : R x' w) (hp : plainF (F x') = true) (hs : subF fr (F x')) :
    W P n c fr w k := goF_ok hn fun _ ha => ⟨x', hm, hR, ha.sub hp hs⟩
/-- Where ways meet. -/
theorem WLm {ι : Type} {F : ι → Fr} {R : ι → World → Prop} (hn : finK k = some (MeetN n F R)) (x' : ι) (hR : R x' w) (hp : plainF (F x') = true) (hs : subF fr (F x')) :
    WL P n ops [] fr w k := WLf hn fun _ ha => ⟨x', hR, ha.sub hp hs⟩
theorem Wm {c : Code} {ι : Type} {F : ι → Fr} {R : ι → World → Prop} (hn : goF 200 c k = some (MeetN n F R)) (x' : ι) (hR : R x' w) (hp : plainF (F x') = true) (hs : subF fr (F x')) :
    W P n c fr w k := goF_ok hn fun _ ha => ⟨x', hR, ha.sub hp hs⟩
end
end Go.Proofs.YtljcmmmajjmpoaaGreatDoor
