/- The order of classes by name. -/
import Derived.Test.YtljcmmmajjmpoaaGreatDoorAlike
import Derived.Shelf.SlSortCmp.NoneTotal
import Derived.Sort.Walk0
namespace Go.Proofs.YtljcmmmajjmpoaaGreatDoor
open Go.RowKit Sp

theorem cmpS_lt (a b : L) : decide (cmpS a b < 0) = Op.bytesLess a b := by
  unfold cmpS
  cases h : Op.bytesLess a b
  · simp only [Bool.false_eq_true, if_false, Bool.false_or]
    split <;> rfl
  · rfl
/-- A class's cells: the class and its three slice headers. -/
structure SC where
  c : Cls
  i : Option Addr × Nat × Nat
  f : Option Addr × Nat × Nat
  m : Option Addr × Nat × Nat
instance : Inhabited SC := ⟨⟨zeroC, (none, 0, 0), (none, 0, 0), (none, 0, 0)⟩⟩
def hdr (x : Option Addr × Nat × Nat) : Value := .slice x.1 x.2.1 x.2.2
def SC.enc (x : SC) : List Value := Cls.cs x.c (hdr x.i) (hdr x.f) (hdr x.m)
theorem SC.len (x : SC) : x.enc.length = 7 := rfl
theorem SC.one (x : SC) : ∀ v ∈ x.enc, v.oneCell' = true := Cls.one x.c rfl rfl rfl
def cfC (x y : SC) : Int := cmpS x.c.name y.c.name
theorem ltOf_cfC (x y : SC) : ltOf cfC x y = decide (x.c.name < y.c.name) := by
  unfold ltOf cfC
  rw [cmpS_lt, bytesLess_eq]
theorem swoC : Go.Sort.SWO (ltOf cfC) where
  irrefl x := by rw [ltOf_cfC]; simp [List.lt_irrefl]
  trans x y z h1 h2 := by
    rw [ltOf_cfC, decide_eq_true_eq] at *
    exact List.lt_trans h1 h2
  ntrans x y z h1 h2 := by
    rw [ltOf_cfC, decide_eq_false_iff_not] at *
    rw [List.not_lt] at *
    exact List.le_trans h2 h1
section
variable {P : Program} {n : Nat} {fr : Fr} {w : World} {k : Kt} {ops : Array Oper} {rest : List Oper}
/-- A parameter is laid in memory, the world told. -/
theorem WL_boxX {p : List (Nat × Bool)} {d : Nat} {x : Operand} {t ty : TypeId} {pos : String} {aft : Array Edge} {gd : Option (Nat × Bool)} {v : Value} {cs : List Value}
    (hp : pathOf ops fr ⟨some d, .box t x, ty, pos, aft, gd⟩ = some p) (hx : gv fr p x = some v) (hcs : v.cells = cs.toArray) (hsat : satB fr p = true) (hck : (decide (d < n) && fresh d fr) = true)
    (h : ∀ g w1, w1 = w.alloc (.cells cs.toArray t) → g = w.heap.size → Blk w1 g t cs → Ext w w1 → WL P n ops rest ((d, [], .pointer (some ⟨g, 0, none⟩)) :: fr) w1 k) : WL P n ops (⟨some d, .box t x, ty, pos, aft, gd⟩ :: rest) fr w k := by
  obtain ⟨h1, h2⟩ := gv_ok hx
  simp only [Bool.and_eq_true] at hck
  refine WL_op hp rfl (by simpa [Op.operands] using h1) hsat rfl hck.1 hck.2 (v := .pointer (some ⟨w.heap.size, 0, none⟩)) ?_ (h _ _ rfl rfl (Blk.new w t cs) ((Below.refl _ _).alloc (Nat.le_refl _) _))
  simp [execOp, h2, Instr.box, newVar, newRow, hcs]
end
theorem classes1_x (a b : Cls) (i1 f1 m1 i2 f2 m2 : Value) (w : World) : Calls Tryz.prog 55 #[.agg (Cls.cs a i1 f1 m1).toArray, .agg (Cls.cs b i2 f2 m2).toArray] w fun e w' => e = .returned (.int .i64 (cmpS a.name b.name)) ∧ ∃ o1 o2, w' = (w.alloc o1).alloc o2 := by
  refine calls_W (args := [.agg (Cls.cs a i1 f1 m1).toArray, .agg (Cls.cs b i2 f2 m2).toArray]) Tryz.func55 rfl rfl rfl ?_
  refine Wg rfl (W_region ?_)
  refine WL_boxX (cs := Cls.cs a i1 f1 m1) rfl rfl rfl rfl rfl ?_
  rintro g2 w2 e2 hg2 hB2 hE2
  refine WL_boxX (cs := Cls.cs b i2 f2 m2) rfl rfl rfl rfl rfl ?_
  rintro g3 w3 e3 hg3 hB3 hE3
  replace hB2 := hB2.ext hE3
  repeat (first | refine WL1 rfl ?_ | refine WLe rfl rfl ?_ | refine W_region ?_ | refine WL2 inf rfl ?_ | refine WL_ld inf rfl rfl rfl rfl (Blk.cell (by assumption) rfl) ?_)
  refine WL_callq rfl rfl rfl rfl rfl enters_compare rfl (fun _ => compare_any a.name b.name _) ?_
  repeat (first | refine WL1 rfl ?_ | refine WLe rfl rfl ?_ | refine W_region ?_ | refine WL2 inf rfl ?_ | refine WL_ld inf rfl rfl rfl rfl (Blk.cell (by assumption) rfl) ?_)
  exact W_ret1 rfl rfl rfl ⟨rfl, _, _, by rw [e3, e2]⟩
theorem alloc2_grow (w : World) (o1 o2 : Obj) : (w.alloc o1).alloc o2 = Go.Sort.grow (w.drewN 0) #[o1, o2] := by
  rw [World.drewN_zero]
  unfold Go.Sort.grow World.alloc
  have : (w.heap.push o1).push o2 = w.heap ++ #[o1, o2] := by apply Array.ext'; simp
  simp [this]
theorem cmpLays (blk off size : Nat) (w : World) : CmpLays Tryz.prog 55 #[] SC.enc 7 cfC blk off size w := fun m os dk _ x y =>
  (classes1_x x.c y.c _ _ _ _ _ _ _).mono fun _ _ ⟨he, o1, o2, hw⟩ => ⟨he, 0, #[o1, o2], by rw [hw, alloc2_grow]⟩
end Go.Proofs.YtljcmmmajjmpoaaGreatDoor
