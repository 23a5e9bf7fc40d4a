/- resolve: Field, may, Look, Call, Initializes. -/
import Derived.Test.YtoalmjciodlkaaaGreatResc
namespace Go.Proofs.YtoalmjciodlkaaaGreat
open Go.RowKit Sp

section
variable {P : Program} {n : Nat} {fr : Fr} {w : World} {k : Kt}
/-- Ways meet again behind a block. -/
theorem W_cutB {id : Nat} {c y : Code} {ι : Type} (F : ι → Fr) (R : ι → World → Prop) (h : W P n c fr w (.blk id (.fin (MeetN n F R) k)))
    (go : ∀ x w, R x w → W P n y (F x) w k) : W P n c fr w (.blk id (.seq y k)) := fun _ ha => wp_mono (h _ ha) fun e a' w' hq => by
  cases e with
  | normal => obtain ⟨x, h1, h2⟩ := hq; exact go x w' h1 a' h2
  | exit id' =>
    show (if id' = id then _ else _)
    replace hq : (if id' = id then MeetN n F R a' w' else k.post P (.exit id') a' w') := hq
    by_cases h : id' = id
    · rw [if_pos h] at hq ⊢
      obtain ⟨x, h1, h2⟩ := hq
      exact go x w' h1 a' h2
    · rw [if_neg h] at hq ⊢
      exact hq
  | goto l => exact hq
  | ret => exact hq
  | panic ch => exact hq
  | outgrown => exact hq
end
section
variable {n : Nat} {fr : Fr} {ops : Array Oper}
theorem yl_eqF {S : World → Prop} {p : List (Nat × Bool)} {d : Nat} {x y : Operand} {yt ty : TypeId} {pos : String} {aft : Array Edge} {gd : Option (Nat × Bool)} {f g : Fld}
    (hp : pathOf ops fr ⟨some d, .binOp .eql 72 x y yt, ty, pos, aft, gd⟩ = some p) (hx : gv fr p x = some (.agg (Fld.cs f).toArray)) (hy : gv fr p y = some (.agg (Fld.cs g).toArray))
    (hck : (decide (d < n) && fresh d fr && freshP d p) = true) : YldS Tryz.prog n ops fr S ⟨some d, .binOp .eql 72 x y yt, ty, pos, aft, gd⟩ d p (.bool (fldE f g)) := by
  simp only [Bool.and_eq_true] at hck
  obtain ⟨h1, h2⟩ := gv_ok hx
  obtain ⟨h3, h4⟩ := gv_ok hy
  refine yl_val hp rfl (by simpa [Op.operands] using okO_two h1 h3) rfl hck.1.1 hck.1.2 hck.2 (fun w _ _ => ?_)
  have hg := run_eqGuard_agg (P := Tryz.prog) w .eql 72 x y (Fld.cs f).toArray (Fld.cs g).toArray (by kernel_rfl)
  simp [execOp, h2, h4, hg, eqFld]
end
theorem enters_ixF : Enters Tryz.prog 65 := enters_of Tryz.func65 (by kernel_rfl) rfl
set_option maxRecDepth 100000 in
set_option maxHeartbeats 4000000 in
theorem ixF_any {B : Nat → Prop} {w : World} {v : Value} {xs : List Fld} (x : Fld) (hsl : Sl FldR 3 B w v xs) :
    Calls Tryz.prog 65 #[v, .agg (Fld.cs x).toArray] w fun e w1 => e = .returned (.int .i64 (ixI (fun y => fldE x y) xs)) ∧ Ext w w1 := by
  have hle := hsl.len
  obtain ⟨A, c, rfl, hlc, _, hrow⟩ := hsl
  refine calls_W (args := [.slice A xs.length c, .agg (Fld.cs x).toArray]) Tryz.func65 rfl rfl rfl ?_
  refine Wg rfl (W_region ?_)
  refine WL_box (cs := Fld.cs x) rfl rfl rfl rfl rfl ?_
  rintro g w1 hg hB hE
  repeat (first | refine WL1 rfl ?_ | refine WLe rfl rfl ?_ | refine W_region ?_ | refine WL2 inf rfl ?_ | refine WL_ld inf rfl rfl rfl rfl (Blk.cell (by assumption) rfl) ?_)
  refine W_loop (fun k : Nat => [(0, [], .slice A xs.length c), (3, [], .pointer (some ⟨g, 0, none⟩)), (7, [], .int .i64 xs.length), (8, [], .int .i64 k)]) (fun k W => Ext w W ∧ Blk W g 72 (Fld.cs x) ∧ k ≤ xs.length ∧ ∀ j y, j < k → xs[j]? = some y → fldE x y = false) (fun k => xs.length - k) 0 (fun _ => rfl) ⟨rfl, rfl, rfl, rfl, trivial⟩ ⟨hE, hB, Nat.zero_le _, fun j y h => absurd h (Nat.not_lt_zero j)⟩ ?_
  clear hB hE
  rintro k W ⟨hE, hB, hk, hno⟩
  refine Wg rfl (W_region ?_)
  repeat (first | refine WL1 rfl ?_ | refine WLe rfl rfl ?_ | refine W_region ?_ | refine WL2 inf rfl ?_ | refine WL_ld inf rfl rfl rfl rfl (Blk.cell (by assumption) rfl) ?_)
  refine W_cond rfl rfl (fun hb => ?_) (fun hb => ?_)
  · have hlt : k < xs.length := by simpa using hb
    have hx : xs[k]? = some xs[k] := List.getElem?_eq_getElem hlt
    generalize xs[k] = y at hx
    obtain ⟨a, cs, rfl, hz, hR, hcs⟩ := hrow.at_ hx
    obtain ⟨rfl, hlen⟩ := hR
    refine Wg rfl (W_region ?_)
    repeat (first | refine WL1 rfl ?_ | refine WLe rfl rfl ?_ | refine W_region ?_ | refine WL2 inf rfl ?_ | refine WL_ld inf rfl rfl rfl rfl (Blk.cell (by assumption) rfl) ?_)
    have hBd : Blk W.drew g 72 (Fld.cs x) := hB
    have hEd := hE.then_ (Ext.drew_ W)
    refine W_draws (fun W' => Ext W.drew W') [] mixed_ ?_
    refine WDq 0 rfl (yl_lda (cs := Fld.cs x) inf rfl rfl rfl rfl (fun W' hS => (hBd.ext hS).cells)) (Ext.rfl' _) (by kernel_rfl) ?_
    refine WDp 1 rfl (by first | exact stepV_yl _ rfl | exact stepI_yl _ inf rfl) (by kernel_rfl) ?_
    refine WDp 2 rfl (by first | exact stepV_yl _ rfl | exact stepI_yl _ inf rfl) (by kernel_rfl) ?_
    refine WDq 3 rfl (yl_ix inf rfl rfl rfl rfl rfl (fun _ => ⟨by omega, by omega⟩)) (Ext.rfl' _) (by kernel_rfl) ?_
    refine WDq 4 rfl (yl_lda (cs := Fld.cs y) inf rfl rfl rfl rfl (fun W' hS => hcs.cells.ext (hEd.then_ hS))) (Ext.rfl' _) (by kernel_rfl) ?_
    refine WDq 5 rfl (yl_eqF (f := x) (g := y) rfl rfl rfl rfl) (Ext.rfl' _) (by kernel_rfl) ?_
    refine WDe (by kernel_rfl) ?_
    repeat (first | refine WL1 rfl ?_ | refine WLe rfl rfl ?_ | refine W_region ?_ | refine WL2 inf rfl ?_ | refine WL_ld inf rfl rfl rfl rfl (Blk.cell (by assumption) rfl) ?_)
    refine W_cond rfl rfl (fun hc => ?_) (fun hc => ?_)
    · refine Wg rfl (W_region ?_)
      repeat (first | refine WL1 rfl ?_ | refine WLe rfl rfl ?_ | refine W_region ?_ | refine WL2 inf rfl ?_ | refine WL_ld inf rfl rfl rfl rfl (Blk.cell (by assumption) rfl) ?_)
      exact W_ret1 rfl rfl rfl ⟨ret_int (ixI_some hx hc hno).symm, hEd⟩
    · refine Wg rfl (W_region ?_)
      refine WL_add rfl rfl rfl rfl rfl rfl rfl (fun _ => by omega) ?_
      repeat (first | refine WL1 rfl ?_ | refine WLe rfl rfl ?_ | refine W_region ?_ | refine WL2 inf rfl ?_ | refine WL_ld inf rfl rfl rfl rfl (Blk.cell (by assumption) rfl) ?_)
      refine WLr rfl (k + 1) (by omega) ⟨hEd, hBd, hlt, fun j z hj hz => ?_⟩ rfl ⟨rfl, rfl, rfl, rfl, trivial⟩
      rcases Nat.lt_or_eq_of_le (Nat.le_of_lt_succ hj) with h1 | rfl
      · exact hno j z h1 hz
      · rw [hx] at hz; cases hz; exact hc
  · have hk' : k = xs.length := by simp at hb; omega
    refine Wg rfl (W_region ?_)
    repeat (first | refine WL1 rfl ?_ | refine WLe rfl rfl ?_ | refine W_region ?_ | refine WL2 inf rfl ?_ | refine WL_ld inf rfl rfl rfl rfl (Blk.cell (by assumption) rfl) ?_)
    exact W_ret1 rfl rfl rfl ⟨ret_int (ixI_none fun j y hj hy => hno j y (by omega) hy).symm, hE⟩
theorem enters_hasF : Enters Tryz.prog 27 := enters_of Tryz.func27 (by kernel_rfl) rfl
theorem hasF_any {B : Nat → Prop} {w : World} {v : Value} {xs : List Fld} (x : Fld) (hsl : Sl FldR 3 B w v xs) :
    Calls Tryz.prog 27 #[v, .agg (Fld.cs x).toArray] w fun e w1 => e = .returned (.bool (xs.any (fun y => fldE x y))) ∧ Ext w w1 := by
  refine calls_W (args := [v, .agg (Fld.cs x).toArray]) Tryz.func27 rfl rfl rfl ?_
  refine Wg rfl (W_region ?_)
  refine WL_box (cs := Fld.cs x) rfl rfl rfl rfl rfl ?_
  rintro g w1 hg hB hE
  repeat (first | refine WL1 rfl ?_ | refine WLe rfl rfl ?_ | refine W_region ?_ | refine WL2 inf rfl ?_ | refine WL_ld inf rfl rfl rfl rfl (Blk.cell (by assumption) rfl) ?_)
  refine WL_lda inf (cs := Fld.cs x) rfl rfl rfl rfl hB.cells ?_
  refine WL_call rfl rfl rfl rfl rfl enters_ixF rfl (ixF_any x (hsl.ext FldR.mono hE)) ?_
  rintro e w2 ⟨rfl, hE2⟩
  refine ⟨_, rfl, ?_⟩
  repeat (first | refine WL1 rfl ?_ | refine WLe rfl rfl ?_ | refine W_region ?_ | refine WL2 inf rfl ?_ | refine WL_ld inf rfl rfl rfl rfl (Blk.cell (by assumption) rfl) ?_)
  exact W_ret1 rfl rfl rfl ⟨ret_bool (ixI_any _ xs), hE.then_ hE2⟩
/-- Who has a field. -/
def hasFD (P : Option (List Cls)) (f : Fld) (o : L) : Bool := ((findP P o).getD zeroC).fields.any fun y => fldE f y
def fieldD (P : Option (List Cls)) (cls name d : L) (st : Bool) : Option L := (aboveD P cls).find? (hasFD P ⟨name, d, st⟩)
theorem bldF (a b : ByteArray) (c : Bool) (w : World) : (Instr.build 72 [(0, Value.string a), (1, .string b), (2, .bool c)].toArray).run Tryz.prog w = .ok (.agg [.string a, .string b, .bool c].toArray) w := by kernel_rfl
theorem enters_rField : Enters Tryz.prog 8 := enters_of Tryz.func8 (by kernel_rfl) rfl
set_option maxRecDepth 100000 in
set_option maxHeartbeats 4000000 in
theorem rField_any (P : Option (List Cls)) (cls name d : L) (st : Bool) (pv : Value) (w : World) (hP : PrgV w pv P) (hl : Len cls) (hf : FitP P) :
    Calls Tryz.prog 8 #[pv, .string (mkS cls), .string (mkS name), .string (mkS d), .bool st] w fun e w' => e = .returned (.tuple #[.string (mkS ((fieldD P cls name d st).getD [])), .int .i64 (if (fieldD P cls name d st).isSome then 0 else 8)]) ∧ Ext w w' := by
  refine calls_W (args := [pv, .string (mkS cls), .string (mkS name), .string (mkS d), .bool st]) Tryz.func8 rfl rfl rfl ?_
  refine Wg rfl (W_region ?_)
  repeat (first | refine WL1 rfl ?_ | refine WLe rfl rfl ?_ | refine W_region ?_ | refine WL2 inf rfl ?_ | refine WL_ld inf rfl rfl rfl rfl (Blk.cell (by assumption) rfl) ?_)
  refine W_scope 0 (fun x : L => [(10, [], .string (mkS x))]) (fun x W => Ext w W ∧ fieldD P cls name d st = some x) (fun _ => 0) rfl ?_ ?_
  · rintro o W ⟨hE, hD⟩
    refine Wg rfl (W_region ?_)
    repeat (first | refine WL1 rfl ?_ | refine WLe rfl rfl ?_ | refine W_region ?_ | refine WL2 inf rfl ?_ | refine WL_ld inf rfl rfl rfl rfl (Blk.cell (by assumption) rfl) ?_)
    refine W_ret2 rfl rfl rfl rfl ⟨?_, hE⟩
    rw [hD]; rfl
  · intro _
    refine Wg rfl (W_region ?_)
    repeat (first | refine WL1 rfl ?_ | refine WLe rfl rfl ?_ | refine W_region ?_ | refine WL2 inf rfl ?_ | refine WL_ld inf rfl rfl rfl rfl (Blk.cell (by assumption) rfl) ?_)
    refine WL_call rfl rfl rfl rfl rfl enters_above rfl (above_any P cls pv _ hP hl hf) ?_
    rintro e w4 ⟨cv, rfl, hE4, hown, hcl⟩
    refine ⟨_, rfl, ?_⟩
    have hal : (aboveD P cls).length ≤ 9223372036854775807 := (hown.sl (R := StrR) (B := Any_) (strEach _ _ _ hcl) fun _ _ => trivial).len
    obtain ⟨A, cp, rfl⟩ := hown.val
    rw [List.length_map] at *
    repeat (first | refine WL1 rfl ?_ | refine WLe rfl rfl ?_ | refine W_region ?_ | refine WL2 inf rfl ?_ | refine WL_ld inf rfl rfl rfl rfl (Blk.cell (by assumption) rfl) ?_)
    refine W_loop (fun k : Nat => [(0, [], pv), (2, [], .string (mkS name)), (3, [], .string (mkS d)), (4, [], .bool st), (16, [], .slice A (aboveD P cls).length cp), (17, [], .int .i64 (aboveD P cls).length), (18, [], .int .i64 k)])
      (fun k W => k ≤ (aboveD P cls).length ∧ Ext w W ∧ OwnR w.heap.size 9 1 W (.slice A (aboveD P cls).length cp) ((aboveD P cls).map strC) ∧ ∀ i s, i < k → (aboveD P cls)[i]? = some s → hasFD P ⟨name, d, st⟩ s = false)
      (fun k => (aboveD P cls).length - k) 0 (fun _ => rfl) ⟨rfl, rfl, rfl, rfl, rfl, rfl, rfl, trivial⟩ ⟨Nat.zero_le _, hE4, hown, fun i s h => absurd h (Nat.not_lt_zero i)⟩ ?_
    clear hown hE4
    rintro k W ⟨hk, hE, hown, hno⟩
    refine Wg rfl (W_region ?_)
    repeat (first | refine WL1 rfl ?_ | refine WLe rfl rfl ?_ | refine W_region ?_ | refine WL2 inf rfl ?_ | refine WL_ld inf rfl rfl rfl rfl (Blk.cell (by assumption) rfl) ?_)
    refine W_cond rfl rfl (fun hb => ?_) (fun hb => ?_)
    · have hlt : k < (aboveD P cls).length := by simpa using hb
      have hx : (aboveD P cls)[k]? = some (aboveD P cls)[k] := List.getElem?_eq_getElem hlt
      generalize (aboveD P cls)[k] = s at hx
      obtain ⟨g5, c', hv, hge, hgl, hcells⟩ := hown.cells (i := k) (cs := strC s) (by rw [List.getElem?_map, hx]; rfl)
      have hA : A = some ⟨g5, 0, none⟩ := congrArg (fun v => match v with | Value.slice A _ _ => A | _ => none) hv
      subst hA
      refine Wg rfl (W_region ?_)
      refine WL_ix inf rfl rfl rfl rfl rfl (fun _ => ⟨by omega, by omega⟩) ?_
      refine WL_ld inf rfl rfl rfl rfl (hcells.at_ (j := 0) rfl) ?_
      repeat (first | refine WL1 rfl ?_ | refine WLe rfl rfl ?_ | refine W_region ?_ | refine WL2 inf rfl ?_ | refine WL_ld inf rfl rfl rfl rfl (Blk.cell (by assumption) rfl) ?_)
      refine WL_call rfl rfl rfl rfl rfl enters_look rfl (look_any P s pv _ (hP.ext hE)) ?_
      rintro e w5 ⟨cells, rfl, hE5, hR⟩
      refine ⟨_, rfl, ?_⟩
      have hz := hR.len
      have hone := ClsR.one _ _ _ _ hR
      repeat (first | refine WL1 rfl ?_ | refine WLe rfl rfl ?_ | refine W_region ?_ | refine WL2 inf rfl ?_ | refine WL_ld inf rfl rfl rfl rfl (Blk.cell (by assumption) rfl) ?_)
      refine WL_alloc inf rfl rfl rfl rfl rfl ?_
      rintro g12 w6 hg12 hB6 hE6
      refine WL_sta inf (cs' := cells) rfl rfl rfl (by rw [hz]; rfl) hone rfl hB6 (by rw [hz]; rfl) ?_
      rintro w7 hB7 u7
      have hE7 : Ext W w7 := u7.ext (hE5.then_ hE6) (by have := hE5.size; omega)
      have hR7 := ClsR.mono _ _ _ _ _ _ hR hE7.keeps fun _ h => h
      obtain ⟨iv, fv, mv, rfl, -, -, -, hsf, -⟩ := hR7
      repeat (first | refine WL1 rfl ?_ | refine WLe rfl rfl ?_ | refine W_region ?_ | refine WL2 inf rfl ?_ | refine WL_ld inf rfl rfl rfl rfl (Blk.cell (by assumption) rfl) ?_)
      refine WL_bld rfl rfl rfl rfl (bldF _ _ _) ?_
      refine WL_call rfl rfl rfl rfl rfl enters_hasF rfl (hasF_any ⟨name, d, st⟩ hsf) ?_
      rintro e w8 ⟨rfl, hE8⟩
      refine ⟨_, rfl, ?_⟩
      have hE8' := (hE.then_ hE7).then_ hE8
      repeat (first | refine WL1 rfl ?_ | refine WLe rfl rfl ?_ | refine W_region ?_ | refine WL2 inf rfl ?_ | refine WL_ld inf rfl rfl rfl rfl (Blk.cell (by assumption) rfl) ?_)
      refine W_cond rfl rfl (fun hc => ?_) (fun hc => ?_)
      · exact Wm rfl s ⟨hE8', find_take _ hx hno hc⟩ rfl ⟨rfl, trivial⟩
      · refine Wg rfl (W_region ?_)
        refine WL_add rfl rfl rfl rfl rfl rfl rfl (fun _ => by omega) ?_
        repeat (first | refine WL1 rfl ?_ | refine WLe rfl rfl ?_ | refine W_region ?_ | refine WL2 inf rfl ?_ | refine WL_ld inf rfl rfl rfl rfl (Blk.cell (by assumption) rfl) ?_)
        refine WLr rfl (k + 1) (by omega) ⟨hlt, hE8', (hown.ext hE7).ext hE8, fun i y hi hy => ?_⟩ rfl ⟨rfl, rfl, rfl, rfl, rfl, rfl, rfl, trivial⟩
        rcases Nat.lt_or_eq_of_le (Nat.le_of_lt_succ hi) with h1 | rfl
        · exact hno i y h1 hy
        · rw [hx] at hy; cases hy; exact hc
    · have hk' : k = (aboveD P cls).length := by simp at hb; omega
      subst hk'
      have hD : fieldD P cls name d st = none := find_no _ hno
      refine Wg rfl (W_region ?_)
      repeat (first | refine WL1 rfl ?_ | refine WLe rfl rfl ?_ | refine W_region ?_ | refine WL2 inf rfl ?_ | refine WL_ld inf rfl rfl rfl rfl (Blk.cell (by assumption) rfl) ?_)
      refine W_ret2 rfl rfl rfl rfl ⟨?_, hE⟩
      rw [hD]; rfl
end Go.Proofs.YtoalmjciodlkaaaGreat
