/- resolve: Dispatch, Method, Clinit, Field. -/
import Derived.Test.YtoalmjciodlkaaaGreatResb
import Derived.Laws.StructEq
namespace Go.Proofs.YtoalmjciodlkaaaGreat
open Go.RowKit Sp

set_option maxRecDepth 100000 in
set_option maxHeartbeats 4000000 in
theorem dispatch_any (P : Option (List Cls)) (cls name d : L) (pv : Value) (w : World) (hP : PrgV w pv P) (hl : Len cls) (hf : FitP P) (hsm : ∀ o m, methD P o name d = some m → m.code.length ≤ 200 ∧ m.hand.length ≤ 20) :
    Calls Tryz.prog 11 #[pv, .string (mkS cls), .string (mkS name), .string (mkS d)] w fun e w' => ∃ cells, e = .returned (.tuple #[.string (mkS (ownerR (dispD P cls name d))), .agg cells.toArray, .bool (dispD P cls name d).isSome]) ∧ Ext w w' ∧ MthR Any_ w' (mthR (dispD P cls name d)) cells := by
  have hpc := hP.one
  have hnn : dispD P cls name d = if P.isNone then none else (hasD P cls name d).map fun o => (o, (methD P o name d).getD zeroM) := rfl
  obtain ⟨pa, rfl, hpa⟩ := hP.isNil
  refine calls_W (args := [.pointer pa, .string (mkS cls), .string (mkS name), .string (mkS d)]) Tryz.func11 rfl rfl rfl ?_
  refine Wg rfl (W_region ?_)
  refine WL1 rfl ?_
  refine WL_alloc inf (cs := zMv) rfl rfl rfl rfl rfl ?_
  rintro g9 w1 hg9 hB9 hE1
  have z1 := hE1.size
  cases pa with
  | none =>
    repeat (first | refine WL1 rfl ?_ | refine WLe rfl rfl ?_ | refine W_region ?_ | refine WL2 inf rfl ?_ | refine WL_ld inf rfl rfl rfl rfl (Blk.cell (by assumption) rfl) ?_)
    refine W_true rfl rfl ?_
    rw [show P.isNone = true from hpa.symm, if_pos rfl] at hnn
    refine Wg rfl (W_region ?_)
    refine WL_bld rfl rfl rfl rfl bldM0 ?_
    repeat (first | refine WL1 rfl ?_ | refine WLe rfl rfl ?_ | refine W_region ?_ | refine WL2 inf rfl ?_ | refine WL_ld inf rfl rfl rfl rfl (Blk.cell (by assumption) rfl) ?_)
    refine WL_sta inf (cs' := zMv) rfl rfl rfl rfl zMv_one rfl hB9 rfl ?_
    rintro w2 hB2 u2
    repeat (first | refine WL1 rfl ?_ | refine WLe rfl rfl ?_ | refine W_region ?_ | refine WL2 inf rfl ?_ | refine WL_ld inf rfl rfl rfl rfl (Blk.cell (by assumption) rfl) ?_)
    refine W_retL [.string (mkS []), .agg zMv.toArray, .bool false] rfl rfl ⟨rfl, ⟨_, rfl, loadVar_agg inf rfl hB2.cells⟩, rfl, trivial⟩ ⟨zMv, ?_, u2.ext hE1 (by omega), ?_⟩
    · rw [hnn]; rfl
    · rw [hnn]; exact zeroM_rep _ _
  | some pa =>
    repeat (first | refine WL1 rfl ?_ | refine WLe rfl rfl ?_ | refine W_region ?_ | refine WL2 inf rfl ?_ | refine WL_ld inf rfl rfl rfl rfl (Blk.cell (by assumption) rfl) ?_)
    refine W_false rfl rfl ?_
    rw [show P.isNone = false from hpa.symm, if_neg (by simp)] at hnn
    refine Wg rfl (W_region ?_)
    repeat (first | refine WL1 rfl ?_ | refine WLe rfl rfl ?_ | refine W_region ?_ | refine WL2 inf rfl ?_ | refine WL_ld inf rfl rfl rfl rfl (Blk.cell (by assumption) rfl) ?_)
    refine WL_call rfl rfl rfl rfl rfl enters_has rfl (has_any P cls name d (.pointer (some pa)) _ hpc (hP.ext hE1) hf.1 hl) ?_
    rintro e w2 ⟨rfl, hE2⟩
    refine ⟨_, rfl, ?_⟩
    have z2 := hE2.size
    replace hB9 := hB9.ext hE2
    have hE12 := hE1.then_ hE2
    repeat (first | refine WL1 rfl ?_ | refine WLe rfl rfl ?_ | refine W_region ?_ | refine WL2 inf rfl ?_ | refine WL_ld inf rfl rfl rfl rfl (Blk.cell (by assumption) rfl) ?_)
    refine W_cond rfl rfl (fun hb => ?_) (fun hb => ?_)
    · have hn : hasD P cls name d = none := by
        cases h : hasD P cls name d with
        | none => rfl
        | some o => rw [h] at hb; cases hb
      rw [hn] at hnn
      refine Wg rfl (W_region ?_)
      refine WL_bld rfl rfl rfl rfl bldM0 ?_
      repeat (first | refine WL1 rfl ?_ | refine WLe rfl rfl ?_ | refine W_region ?_ | refine WL2 inf rfl ?_ | refine WL_ld inf rfl rfl rfl rfl (Blk.cell (by assumption) rfl) ?_)
      refine WL_sta inf (cs' := zMv) rfl rfl rfl rfl zMv_one rfl hB9 rfl ?_
      rintro w3 hB3 u3
      repeat (first | refine WL1 rfl ?_ | refine WLe rfl rfl ?_ | refine W_region ?_ | refine WL2 inf rfl ?_ | refine WL_ld inf rfl rfl rfl rfl (Blk.cell (by assumption) rfl) ?_)
      refine W_retL [.string (mkS []), .agg zMv.toArray, .bool false] rfl rfl ⟨rfl, ⟨_, rfl, loadVar_agg inf rfl hB3.cells⟩, rfl, trivial⟩ ⟨zMv, ?_, u3.ext hE12 (by omega), ?_⟩
      · rw [hnn]; rfl
      · rw [hnn]; exact zeroM_rep _ _
    · obtain ⟨o, ho⟩ : ∃ o, hasD P cls name d = some o := by
        cases h : hasD P cls name d with
        | none => rw [h] at hb; cases hb
        | some o => exact ⟨o, rfl⟩
      rw [ho] at hnn
      rw [ho]
      refine Wg rfl (W_region ?_)
      repeat (first | refine WL1 rfl ?_ | refine WLe rfl rfl ?_ | refine W_region ?_ | refine WL2 inf rfl ?_ | refine WL_ld inf rfl rfl rfl rfl (Blk.cell (by assumption) rfl) ?_)
      refine WL_call rfl rfl rfl rfl rfl enters_pmethod rfl (pmethod_at P o name d (.pointer (some pa)) w _ hP hE12) ?_
      rintro e w3 ⟨cells, rfl, hE3, hR⟩
      refine ⟨_, rfl, ?_⟩
      have hz := hR.len
      have hone := MthR.one _ _ _ _ hR
      repeat (first | refine WL1 rfl ?_ | refine WLe rfl rfl ?_ | refine W_region ?_ | refine WL2 inf rfl ?_ | refine WL_ld inf rfl rfl rfl rfl (Blk.cell (by assumption) rfl) ?_)
      refine WL_sta inf (cs' := cells) rfl rfl rfl (by rw [hz]; rfl) hone rfl (hB9.ext hE3) (by rw [hz]; rfl) ?_
      rintro w4 hB4 u4
      have z3 := hE3.size
      have hE4 : Ext w w4 := u4.ext (hE12.then_ hE3) (by omega)
      have hsmall : ((methD P o name d).getD zeroM).code.length ≤ 549755813888 ∧ ((methD P o name d).getD zeroM).hand.length ≤ 549755813888 := by
        cases h : methD P o name d with
        | none => simp [zeroM]
        | some m => have := hsm o m h; exact ⟨by simp; omega, by simp; omega⟩
      have hR4 := MthR.mono _ _ _ _ _ _ hR hE4.keeps fun _ h => h
      obtain ⟨c4, h4, rfl, -⟩ := hR
      repeat (first | refine WL1 rfl ?_ | refine WLe rfl rfl ?_ | refine W_region ?_ | refine WL2 inf rfl ?_ | refine WL_ld inf rfl rfl rfl rfl (Blk.cell (by assumption) rfl) ?_)
      refine WL_lda inf (cs := Mth.cs ((methD P o name d).getD zeroM) c4 h4) rfl rfl rfl rfl hB4.cells ?_
      refine WL_call rfl rfl rfl rfl rfl enters_ownm rfl (ownm_any _ c4 h4 _ hR4 hsmall) ?_
      rintro e w5 ⟨c5, h5, rfl, hE5, hR5⟩
      refine ⟨_, rfl, ?_⟩
      have hone5 := MthR.one _ _ _ _ hR5
      have hB5 := hB4.ext hE5
      have hlt9 := hB4.lt
      repeat (first | refine WL1 rfl ?_ | refine WLe rfl rfl ?_ | refine W_region ?_ | refine WL2 inf rfl ?_ | refine WL_ld inf rfl rfl rfl rfl (Blk.cell (by assumption) rfl) ?_)
      refine WL_sta inf (cs' := Mth.cs ((methD P o name d).getD zeroM) c5 h5) rfl rfl rfl rfl hone5 rfl hB5 rfl ?_
      rintro w6 hB6 u6
      repeat (first | refine WL1 rfl ?_ | refine WLe rfl rfl ?_ | refine W_region ?_ | refine WL2 inf rfl ?_ | refine WL_ld inf rfl rfl rfl rfl (Blk.cell (by assumption) rfl) ?_)
      refine W_retL [.string (mkS o), .agg (Mth.cs ((methD P o name d).getD zeroM) c5 h5).toArray, .bool true] rfl rfl ⟨rfl, ⟨_, rfl, loadVar_agg inf rfl hB6.cells⟩, rfl, trivial⟩ ⟨Mth.cs ((methD P o name d).getD zeroM) c5 h5, ?_, u6.ext (hE4.then_ hE5) (by omega), ?_⟩
      · rw [hnn]; rfl
      · rw [hnn]
        exact MthR.mono _ _ _ _ _ _ hR5 (u6.keeps fun b hb e => by have := hb.1; omega) fun _ _ => trivial
theorem enters_rMethod : Enters Tryz.prog 9 := enters_of Tryz.func9 (by kernel_rfl) rfl
set_option maxRecDepth 100000 in
set_option maxHeartbeats 4000000 in
theorem rMethod_any (P : Option (List Cls)) (cls name d : L) (pv : Value) (w : World) (hP : PrgV w pv P) (hl : Len cls) (hf : FitP P) (hsm : ∀ o m, methD P o name d = some m → m.code.length ≤ 200 ∧ m.hand.length ≤ 20) :
    Calls Tryz.prog 9 #[pv, .string (mkS cls), .string (mkS name), .string (mkS d)] w fun e w' => ∃ cells, e = .returned (.tuple #[.string (mkS (ownerR (resD P cls name d))), .agg cells.toArray, .int .i64 (if (resD P cls name d).isSome then 0 else 8)]) ∧ Ext w w' ∧ MthR Any_ w' (mthR (resD P cls name d)) cells := by
  refine calls_W (args := [pv, .string (mkS cls), .string (mkS name), .string (mkS d)]) Tryz.func9 rfl rfl rfl ?_
  refine Wg rfl (W_region ?_)
  refine WL1 rfl ?_
  refine WL_alloc inf (cs := zMv) rfl rfl rfl rfl rfl ?_
  rintro g9 w1 hg9 hB9 hE1
  have z1 := hE1.size
  repeat (first | refine WL1 rfl ?_ | refine WLe rfl rfl ?_ | refine W_region ?_ | refine WL2 inf rfl ?_ | refine WL_ld inf rfl rfl rfl rfl (Blk.cell (by assumption) rfl) ?_)
  refine WL_call rfl rfl rfl rfl rfl enters_rmethod rfl (rmethod_any P cls name d pv w _ hP hE1 hl hf) ?_
  rintro e w2 ⟨cells, rfl, hE2, hR⟩
  refine ⟨_, rfl, ?_⟩
  have z2 := hE2.size
  have hz := hR.len
  have hone := MthR.one _ _ _ _ hR
  repeat (first | refine WL1 rfl ?_ | refine WLe rfl rfl ?_ | refine W_region ?_ | refine WL2 inf rfl ?_ | refine WL_ld inf rfl rfl rfl rfl (Blk.cell (by assumption) rfl) ?_)
  refine WL_sta inf (cs' := cells) rfl rfl rfl (by rw [hz]; rfl) hone rfl (hB9.ext hE2) (by rw [hz]; rfl) ?_
  rintro w3 hB3 u3
  have hE3 : Ext w w3 := u3.ext (hE1.then_ hE2) (by omega)
  repeat (first | refine WL1 rfl ?_ | refine WLe rfl rfl ?_ | refine W_region ?_ | refine WL2 inf rfl ?_ | refine WL_ld inf rfl rfl rfl rfl (Blk.cell (by assumption) rfl) ?_)
  refine W_cond rfl rfl (fun hb => ?_) (fun hb => ?_)
  · have hn : resD P cls name d = none := by
      cases h : resD P cls name d with
      | none => rfl
      | some o => rw [h] at hb; cases hb
    refine Wg rfl (W_region ?_)
    refine WL_bld rfl rfl rfl rfl bldM0 ?_
    repeat (first | refine WL1 rfl ?_ | refine WLe rfl rfl ?_ | refine W_region ?_ | refine WL2 inf rfl ?_ | refine WL_ld inf rfl rfl rfl rfl (Blk.cell (by assumption) rfl) ?_)
    refine WL_sta inf (cs' := zMv) rfl rfl rfl rfl zMv_one rfl hB3 (by rw [hz]; rfl) ?_
    rintro w4 hB4 u4
    repeat (first | refine WL1 rfl ?_ | refine WLe rfl rfl ?_ | refine W_region ?_ | refine WL2 inf rfl ?_ | refine WL_ld inf rfl rfl rfl rfl (Blk.cell (by assumption) rfl) ?_)
    refine W_retL [.string (mkS []), .agg zMv.toArray, .int .i64 8] rfl rfl ⟨rfl, ⟨_, rfl, loadVar_agg inf rfl hB4.cells⟩, rfl, trivial⟩ ⟨zMv, ?_, u4.ext hE3 (by omega), ?_⟩
    · rw [hn]; rfl
    · rw [hn]; exact zeroM_rep _ _
  · obtain ⟨⟨o, m⟩, ho⟩ : ∃ o, resD P cls name d = some o := by
      cases h : resD P cls name d with
      | none => rw [h] at hb; cases hb
      | some o => exact ⟨o, rfl⟩
    rw [ho] at hR
    rw [ho]
    have hsmall : m.code.length ≤ 549755813888 ∧ m.hand.length ≤ 549755813888 := by
      unfold resD at ho
      obtain ⟨x, _, hx⟩ := List.exists_of_findSome?_eq_some ho
      rw [Option.map_eq_some_iff] at hx
      obtain ⟨m', hm', he⟩ := hx
      cases he
      have := hsm _ _ hm'
      exact ⟨by omega, by omega⟩
    have hR3 : MthR Any_ w3 m cells := MthR.mono _ _ _ _ _ _ hR hE3.keeps fun _ h => h
    obtain ⟨c4, h4, rfl, -⟩ := hR
    refine Wg rfl (W_region ?_)
    repeat (first | refine WL1 rfl ?_ | refine WLe rfl rfl ?_ | refine W_region ?_ | refine WL2 inf rfl ?_ | refine WL_ld inf rfl rfl rfl rfl (Blk.cell (by assumption) rfl) ?_)
    refine WL_lda inf (cs := Mth.cs m c4 h4) rfl rfl rfl rfl hB3.cells ?_
    refine WL_call rfl rfl rfl rfl rfl enters_ownm rfl (ownm_any m c4 h4 _ hR3 hsmall) ?_
    rintro e w5 ⟨c5, h5, rfl, hE5, hR5⟩
    refine ⟨_, rfl, ?_⟩
    have hone5 := MthR.one _ _ _ _ hR5
    have hB5 := hB3.ext hE5
    have hlt9 := hB3.lt
    repeat (first | refine WL1 rfl ?_ | refine WLe rfl rfl ?_ | refine W_region ?_ | refine WL2 inf rfl ?_ | refine WL_ld inf rfl rfl rfl rfl (Blk.cell (by assumption) rfl) ?_)
    refine WL_sta inf (cs' := Mth.cs m c5 h5) rfl rfl rfl rfl hone5 rfl hB5 rfl ?_
    rintro w6 hB6 u6
    repeat (first | refine WL1 rfl ?_ | refine WLe rfl rfl ?_ | refine W_region ?_ | refine WL2 inf rfl ?_ | refine WL_ld inf rfl rfl rfl rfl (Blk.cell (by assumption) rfl) ?_)
    refine W_retL [.string (mkS o), .agg (Mth.cs m c5 h5).toArray, .int .i64 0] rfl rfl ⟨rfl, ⟨_, rfl, loadVar_agg inf rfl hB6.cells⟩, rfl, trivial⟩ ⟨Mth.cs m c5 h5, rfl, u6.ext (hE3.then_ hE5) (by omega), ?_⟩
    exact MthR.mono _ _ _ _ _ _ hR5 (u6.keeps fun b hb e => by have := hb.1; omega) fun _ _ => trivial
theorem enters_clinit : Enters Tryz.prog 12 := enters_of Tryz.func12 (by kernel_rfl) rfl
theorem clinit_any (P : Option (List Cls)) (cls : L) (pv : Value) (w : World) (hP : PrgV w pv P) :
    Calls Tryz.prog 12 #[pv, .string (mkS cls)] w fun e w' => e = .returned (.bool (methD P cls clinit_ voidS).isSome) ∧ Ext w w' := by
  refine calls_W (args := [pv, .string (mkS cls)]) Tryz.func12 rfl rfl rfl ?_
  refine Wg rfl (W_region ?_)
  repeat (first | refine WL1 rfl ?_ | refine WLe rfl rfl ?_ | refine W_region ?_ | refine WL2 inf rfl ?_ | refine WL_ld inf rfl rfl rfl rfl (Blk.cell (by assumption) rfl) ?_)
  refine WL_call rfl rfl rfl rfl rfl enters_pmethod rfl (pmethod_at P cls clinit_ voidS pv w _ hP (Ext.rfl' w)) ?_
  rintro e w2 ⟨cells, rfl, hE2, hR⟩
  refine ⟨_, rfl, ?_⟩
  have hz := hR.len
  have hone := MthR.one _ _ _ _ hR
  repeat (first | refine WL1 rfl ?_ | refine WLe rfl rfl ?_ | refine W_region ?_ | refine WL2 inf rfl ?_ | refine WL_ld inf rfl rfl rfl rfl (Blk.cell (by assumption) rfl) ?_)
  refine WL_alloc inf rfl rfl rfl rfl rfl ?_
  rintro g5 w3 hg5 hB3 hE3
  refine WL_sta inf (cs' := cells) rfl rfl rfl (by rw [hz]; rfl) hone rfl hB3 (by rw [hz]; rfl) ?_
  rintro w4 hB4 u4
  repeat (first | refine WL1 rfl ?_ | refine WLe rfl rfl ?_ | refine W_region ?_ | refine WL2 inf rfl ?_ | refine WL_ld inf rfl rfl rfl rfl (Blk.cell (by assumption) rfl) ?_)
  exact W_ret1 rfl rfl rfl ⟨rfl, u4.ext (hE2.then_ hE3) (by have := hE2.size; omega)⟩

/-! ### Fields -/
theorem eqF_nil {P : Program} {d : Nat} {xs ys : Array Value} {w : World} : (Op.eqFields d xs ys []).run P w = .ok true w := by simp [Op.eqFields]
theorem eqF_cons {P : Program} {d : Nat} {xs ys : Array Value} {f : Field} {fs : List Field} {a b : Value} {r s : Bool} {w : World} (hn : ¬ f.name = "_") (ha : (part f.type xs f.offset).run P w = .ok a w) (hb : (part f.type ys f.offset).run P w = .ok b w)
    (he : (Op.equalIn d f.type a b).run P w = .ok r w) (hr : (Op.eqFields d xs ys fs).run P w = .ok s w) : (Op.eqFields d xs ys (f :: fs)).run P w = .ok (r && s) w := by
  cases r <;> simp [Op.eqFields, hn, ha, hb, he, hr]
theorem mkS_tl (a b : L) : ((mkS a).toList == (mkS b).toList) = (a == b) := by rw [toList_mk, toList_mk]; rfl
def fldE (f g : Fld) : Bool := f.name == g.name && (f.desc == g.desc && (f.stat == g.stat && true))
set_option maxRecDepth 100000 in
theorem eqFld (f g : Fld) (w : World) : (binOp .eql 72 (.agg (Fld.cs f).toArray) (.agg (Fld.cs g).toArray)).run Tryz.prog w = .ok (.bool (fldE f g)) w := by
  have h : (Op.equalIn (9999 + 1) 72 (.agg (Fld.cs f).toArray) (.agg (Fld.cs g).toArray)).run Tryz.prog w = .ok (fldE f g) w := by
    rw [run_equalIn_struct (P := Tryz.prog) w 9999 72 _ _ (by kernel_rfl) (by kernel_rfl)]
    have hfs : (Tryz.prog.fieldsOf 72).toList = (match Tryz.prog.underlying 72 with | some (.struct fs) => fs | _ => #[]).toList := rfl
    rw [hfs, Tryz.underlying72]
    unfold fldE
    rw [← mkS_tl f.name g.name, ← mkS_tl f.desc g.desc]
    refine eqF_cons (a := .string (mkS f.name)) (b := .string (mkS g.name)) (by decide) (by kernel_rfl) (by kernel_rfl) (run_equalIn_string w 9998 _ _ _ Tryz.underlying9) ?_
    refine eqF_cons (a := .string (mkS f.desc)) (b := .string (mkS g.desc)) (by decide) (by kernel_rfl) (by kernel_rfl) (run_equalIn_string w 9998 _ _ _ Tryz.underlying9) ?_
    refine eqF_cons (a := .bool f.stat) (b := .bool g.stat) (by decide) (by kernel_rfl) (by kernel_rfl) (run_equalIn_bool' w 9998 _ _ _ Tryz.underlying4) ?_
    exact eqF_nil
  rw [run_eql_struct, h]
  rfl
end Go.Proofs.YtoalmjciodlkaaaGreat
