/- resolve: may, Look, Call, Initializes. -/
import Derived.Test.YtoalmjciodlkaaaGreatResd
namespace Go.Proofs.YtoalmjciodlkaaaGreat
open Go.RowKit Sp

/-- May a call name a method? -/
def mayD (P : Option (List Cls)) (x : Ins) (owner : L) (m : Mth) : Bool :=
  if x.op = 32 then m.stat
  else if x.op = 33 then (!m.stat && !m.abst) && (!(x.name == init_) || owner == x.cls)
  else if x.op = 34 then !m.stat && !((findP P x.cls).getD zeroC).face
  else if x.op = 35 then !m.stat && ((findP P x.cls).getD zeroC).face
  else false
theorem beq_iffD {a b : Int} {c : Bool} (h : (a == b) = c) : c = decide (a = b) := by rw [← h]; rfl
theorem enters_may : Enters Tryz.prog 68 := enters_of Tryz.func68 (by kernel_rfl) rfl
set_option maxRecDepth 100000 in
set_option maxHeartbeats 4000000 in
theorem may_any {B : Nat → Prop} (P : Option (List Cls)) (x : Ins) (owner : L) (m : Mth) (mc : List Value) (pv : Value) (w0 w : World) (hP : PrgV w0 pv P) (hE0 : Ext w0 w) (hm : MthR B w0 m mc) :
    Calls Tryz.prog 68 #[pv, .agg (Ins.cs x).toArray, .string (mkS owner), .agg mc.toArray] w fun e w' => e = .returned (.bool (mayD P x owner m)) ∧ Ext w w' := by
  obtain ⟨c, h, rfl, -⟩ := hm
  refine calls_W (args := [pv, .agg (Ins.cs x).toArray, .string (mkS owner), .agg (Mth.cs m c h).toArray]) Tryz.func68 rfl rfl rfl ?_
  refine Wg rfl (W_region ?_)
  refine WL_box (cs := Ins.cs x) rfl rfl rfl rfl rfl ?_
  rintro g5 w1 hg5 hB5 hE1
  refine WL_box (cs := Mth.cs m c h) rfl rfl rfl rfl rfl ?_
  rintro g7 w2 hg7 hB7 hE2
  replace hB5 := hB5.ext hE2
  have hE := hE1.then_ hE2
  repeat (first | refine WL1 rfl ?_ | refine WLe rfl rfl ?_ | refine W_region ?_ | refine WL2 inf rfl ?_ | refine WL_ld inf rfl rfl rfl rfl (Blk.cell (by assumption) rfl) ?_)
  refine WL_call rfl rfl rfl rfl rfl enters_look rfl (look_any P x.cls pv _ (hP.ext (hE0.then_ hE))) ?_
  rintro e w3 ⟨cells, rfl, hE3, hR⟩
  refine ⟨_, rfl, ?_⟩
  have hz := hR.len
  have hone := ClsR.one _ _ _ _ hR
  obtain ⟨iv, fv, mv, rfl, -⟩ := hR
  replace hB5 := hB5.ext hE3
  replace hB7 := hB7.ext hE3
  have z := (hE.then_ hE3).size
  have l5 := hB5.lt
  have l7 := hB7.lt
  repeat (first | refine WL1 rfl ?_ | refine WLe rfl rfl ?_ | refine W_region ?_ | refine WL2 inf rfl ?_ | refine WL_ld inf rfl rfl rfl rfl (Blk.cell (by assumption) rfl) ?_)
  refine WL_alloc inf rfl rfl rfl rfl rfl ?_
  rintro g9 w4 hg9 hB9 hE4
  refine WL_sta inf (cs' := Cls.cs ((findP P x.cls).getD zeroC) iv fv mv) rfl rfl rfl rfl hone rfl hB9 rfl ?_
  rintro w5 hB9' u5
  replace hB5 := u5.blk (hB5.ext hE4) (by omega)
  replace hB7 := u5.blk (hB7.ext hE4) (by omega)
  have hE5 : Ext w w5 := u5.ext ((hE.then_ hE3).then_ hE4) (by omega)
  have hm0 : mayD P x owner m = if x.op = 32 then m.stat
    else if x.op = 33 then (!m.stat && !m.abst) && (!(x.name == init_) || owner == x.cls)
    else if x.op = 34 then !m.stat && !((findP P x.cls).getD zeroC).face
    else if x.op = 35 then !m.stat && ((findP P x.cls).getD zeroC).face
    else false := rfl
  repeat (first | refine WL1 rfl ?_ | refine WLe rfl rfl ?_ | refine W_region ?_ | refine WL2 inf rfl ?_ | refine WL_ld inf rfl rfl rfl rfl (Blk.cell (by assumption) rfl) ?_)
  refine W_cond rfl rfl (fun h1 => ?_) (fun h1 => ?_)
  · rw [if_pos (by simpa using h1)] at hm0
    refine Wg rfl (W_region ?_)
    repeat (first | refine WL1 rfl ?_ | refine WLe rfl rfl ?_ | refine W_region ?_ | refine WL2 inf rfl ?_ | refine WL_ld inf rfl rfl rfl rfl (Blk.cell (by assumption) rfl) ?_)
    exact W_ret1 rfl rfl rfl ⟨ret_bool hm0.symm, hE5⟩
  rw [if_neg (by simpa using h1)] at hm0
  refine Wg rfl (W_region ?_)
  repeat (first | refine WL1 rfl ?_ | refine WLe rfl rfl ?_ | refine W_region ?_ | refine WL2 inf rfl ?_ | refine WL_ld inf rfl rfl rfl rfl (Blk.cell (by assumption) rfl) ?_)
  refine W_cond rfl rfl (fun h2 => ?_) (fun h2 => ?_)
  · rw [if_pos (by simpa using h2)] at hm0
    refine Wg rfl (W_region ?_)
    repeat (first | refine WL1 rfl ?_ | refine WLe rfl rfl ?_ | refine W_region ?_ | refine WL2 inf rfl ?_ | refine WL_ld inf rfl rfl rfl rfl (Blk.cell (by assumption) rfl) ?_)
    exact W_ret1 rfl rfl rfl ⟨ret_bool hm0.symm, hE5⟩
  rw [if_neg (by simpa using h2)] at hm0
  refine Wg rfl (W_region ?_)
  repeat (first | refine WL1 rfl ?_ | refine WLe rfl rfl ?_ | refine W_region ?_ | refine WL2 inf rfl ?_ | refine WL_ld inf rfl rfl rfl rfl (Blk.cell (by assumption) rfl) ?_)
  refine W_cond rfl rfl (fun h3 => ?_) (fun h3 => ?_)
  · rw [if_pos (by simpa using h3)] at hm0
    refine Wg rfl (W_region ?_)
    repeat (first | refine WL1 rfl ?_ | refine WLe rfl rfl ?_ | refine W_region ?_ | refine WL2 inf rfl ?_ | refine WL_ld inf rfl rfl rfl rfl (Blk.cell (by assumption) rfl) ?_)
    exact W_ret1 rfl rfl rfl ⟨ret_bool hm0.symm, hE5⟩
  rw [if_neg (by simpa using h3)] at hm0
  refine Wg rfl (W_region ?_)
  repeat (first | refine WL1 rfl ?_ | refine WLe rfl rfl ?_ | refine W_region ?_ | refine WL2 inf rfl ?_ | refine WL_ld inf rfl rfl rfl rfl (Blk.cell (by assumption) rfl) ?_)
  refine W_cond rfl rfl (fun h4 => ?_) (fun h4 => ?_)
  · rw [if_pos (by simpa using h4)] at hm0
    refine Wg rfl (W_region ?_)
    repeat (first | refine WL1 rfl ?_ | refine WLe rfl rfl ?_ | refine W_region ?_ | refine WL2 inf rfl ?_ | refine WL_ld inf rfl rfl rfl rfl (Blk.cell (by assumption) rfl) ?_)
    exact W_ret1 rfl rfl rfl ⟨ret_bool hm0.symm, hE5⟩
  rw [if_neg (by simpa using h4)] at hm0
  refine Wg rfl (W_region ?_)
  repeat (first | refine WL1 rfl ?_ | refine WLe rfl rfl ?_ | refine W_region ?_ | refine WL2 inf rfl ?_ | refine WL_ld inf rfl rfl rfl rfl (Blk.cell (by assumption) rfl) ?_)
  exact W_ret1 rfl rfl rfl ⟨ret_bool hm0.symm, hE5⟩
/-- What a call names. -/
def lookD (P : Option (List Cls)) (x : Ins) : Option (L × Mth) := match resD P x.cls x.name x.desc with
  | some (o, m) => if mayD P x o m then some (o, m) else none
  | none => none
theorem enters_rLook : Enters Tryz.prog 30 := enters_of Tryz.func30 (by kernel_rfl) rfl
set_option maxRecDepth 100000 in
set_option maxHeartbeats 4000000 in
theorem rLook_any (P : Option (List Cls)) (x : Ins) (pv : Value) (w0 w : World) (hP : PrgV w0 pv P) (hE0 : Ext w0 w) (hl : Len x.cls) (hf : FitP P) :
    Calls Tryz.prog 30 #[pv, .agg (Ins.cs x).toArray] w fun e w' => ∃ cells, e = .returned (.tuple #[.string (mkS (ownerR (lookD P x))), .agg cells.toArray, .bool (lookD P x).isSome]) ∧ Ext w w' ∧ MthR Any_ w0 (mthR (lookD P x)) cells := by
  have hD0 : lookD P x = match resD P x.cls x.name x.desc with
    | some (o, m) => if mayD P x o m then some (o, m) else none
    | none => none := rfl
  refine calls_W (args := [pv, .agg (Ins.cs x).toArray]) Tryz.func30 rfl rfl rfl ?_
  refine Wg rfl (W_region ?_)
  refine WL_box (cs := Ins.cs x) rfl rfl rfl rfl rfl ?_
  rintro g3 w1 hg3 hB3 hE1
  refine WL1 rfl ?_
  refine WL_alloc inf (cs := zMv) rfl rfl rfl rfl rfl ?_
  rintro g5 w2 hg5 hB5 hE2
  have hB3a := hB3
  replace hB3 := hB3.ext hE2
  have hE := hE1.then_ hE2
  have l3 := hB3.lt
  have l5 := hB5.lt
  have z1 := hE1.size
  have z2 := hE2.size
  have l3a : g3 < w1.heap.size := hB3a.lt
  repeat (first | refine WL1 rfl ?_ | refine WLe rfl rfl ?_ | refine W_region ?_ | refine WL2 inf rfl ?_ | refine WL_ld inf rfl rfl rfl rfl (Blk.cell (by assumption) rfl) ?_)
  refine WL_call rfl rfl rfl rfl rfl enters_rmethod rfl (rmethod_any P x.cls x.name x.desc pv w0 _ hP (hE0.then_ hE) hl hf) ?_
  rintro e w3 ⟨cells, rfl, hE3, hR⟩
  refine ⟨_, rfl, ?_⟩
  have hz := hR.len
  have hone := MthR.one _ _ _ _ hR
  repeat (first | refine WL1 rfl ?_ | refine WLe rfl rfl ?_ | refine W_region ?_ | refine WL2 inf rfl ?_ | refine WL_ld inf rfl rfl rfl rfl (Blk.cell (by assumption) rfl) ?_)
  refine WL_sta inf (cs' := cells) rfl rfl rfl (by rw [hz]; rfl) hone rfl (hB5.ext hE3) (by rw [hz]; rfl) ?_
  rintro w4 hB5' u4
  have hE4 : Ext w w4 := u4.ext (hE.then_ hE3) (by omega)
  replace hB3 := u4.blk (hB3.ext hE3) (by omega)
  repeat (first | refine WL1 rfl ?_ | refine WLe rfl rfl ?_ | refine W_region ?_ | refine WL2 inf rfl ?_ | refine WL_ld inf rfl rfl rfl rfl (Blk.cell (by assumption) rfl) ?_)
  refine WL_lda inf (cs := Ins.cs x) rfl rfl rfl rfl hB3.cells ?_
  repeat (first | refine WL1 rfl ?_ | refine WLe rfl rfl ?_ | refine W_region ?_ | refine WL2 inf rfl ?_ | refine WL_ld inf rfl rfl rfl rfl (Blk.cell (by assumption) rfl) ?_)
  refine WL_lda inf (cs := cells) rfl rfl (by rw [hz]; rfl) rfl hB5'.cells ?_
  refine WL_callg (v := .bool (mayD P x (ownerR (resD P x.cls x.name x.desc)) (mthR (resD P x.cls x.name x.desc)))) rfl rfl rfl enters_may rfl (fun _ => may_any P x _ _ cells pv w0 _ hP (hE0.then_ hE4) hR) ?_
  intro w5 hE5
  replace hB5' := hB5'.ext hE5
  have hE5' := hE4.then_ hE5
  repeat (first | refine WL1 rfl ?_ | refine WLe rfl rfl ?_ | refine W_region ?_ | refine WL2 inf rfl ?_ | refine WL_ld inf rfl rfl rfl rfl (Blk.cell (by assumption) rfl) ?_)
  refine W_cond rfl rfl (fun hb => ?_) (fun hb => ?_)
  · have hn : lookD P x = none := by
      rw [hD0]
      cases h : resD P x.cls x.name x.desc with
      | none => rfl
      | some o =>
        rw [h] at hb
        have h2 : mayD P x o.1 o.2 = false := by simpa [ownerR, mthR] using hb
        simp [h2]
    refine Wg rfl (W_region ?_)
    refine WL_bld rfl rfl rfl rfl bldM0 ?_
    repeat (first | refine WL1 rfl ?_ | refine WLe rfl rfl ?_ | refine W_region ?_ | refine WL2 inf rfl ?_ | refine WL_ld inf rfl rfl rfl rfl (Blk.cell (by assumption) rfl) ?_)
    refine WL_sta inf (cs' := zMv) rfl rfl rfl rfl zMv_one rfl hB5' (by rw [hz]; rfl) ?_
    rintro w6 hB6 u6
    repeat (first | refine WL1 rfl ?_ | refine WLe rfl rfl ?_ | refine W_region ?_ | refine WL2 inf rfl ?_ | refine WL_ld inf rfl rfl rfl rfl (Blk.cell (by assumption) rfl) ?_)
    refine W_retL [.string (mkS []), .agg zMv.toArray, .bool false] rfl rfl ⟨rfl, ⟨_, rfl, loadVar_agg inf rfl hB6.cells⟩, rfl, trivial⟩ ⟨zMv, ?_, u6.ext hE5' (by omega), ?_⟩
    · rw [hn]; rfl
    · rw [hn]; exact zeroM_rep _ _
  · have hD : ∃ o, resD P x.cls x.name x.desc = some o ∧ lookD P x = some o := by
      cases h : resD P x.cls x.name x.desc with
      | none => rw [h] at hb; cases hb
      | some o =>
        rw [h] at hb
        have h2 : mayD P x o.1 o.2 = true := by simpa [ownerR, mthR] using hb
        exact ⟨o, rfl, by rw [hD0, h]; simp [h2]⟩
    obtain ⟨o, hr, hD⟩ := hD
    rw [hr] at hR ⊢
    refine Wg rfl ?_
    have hBd : Blk w5.drew g5 33 cells := hB5'
    refine W_draws (fun W' => Ext w5.drew W') [3] mixed_ ?_
    refine WDp 0 rfl (by first | exact stepV_yl _ rfl | exact stepI_yl _ inf rfl) (by kernel_rfl) ?_
    refine WDq 1 rfl (yl_lda (cs := cells) inf rfl rfl (by rw [hz]; rfl) rfl (fun W' hS => (hBd.ext hS).cells)) (Ext.rfl' _) (by kernel_rfl) ?_
    refine WDp 2 rfl (by first | exact stepV_yl _ rfl | exact stepI_yl _ inf rfl) (by kernel_rfl) ?_
    refine WDl 3 rfl (by kernel_rfl) (WL_sta inf (cs' := cells) rfl rfl rfl (by rw [hz]; rfl) hone rfl hBd rfl ?_)
    rintro w6 hB6 u6
    refine WDd (by simp) ?_
    refine WDp 4 rfl (by first | exact stepV_yl _ rfl | exact stepI_yl _ inf rfl) (by kernel_rfl) ?_
    refine WDe (by kernel_rfl) ?_
    have hE6 : Ext w w6 := u6.ext (hE5'.then_ (Ext.drew_ w5)) (by omega)
    repeat (first | refine WL1 rfl ?_ | refine WLe rfl rfl ?_ | refine W_region ?_ | refine WL2 inf rfl ?_ | refine WL_ld inf rfl rfl rfl rfl (Blk.cell (by assumption) rfl) ?_)
    refine W_retL [.string (mkS o.1), .agg cells.toArray, .bool true] rfl rfl ⟨rfl, ⟨_, rfl, loadVar_agg inf (by rw [hz]; rfl) hB6.cells⟩, rfl, trivial⟩ ⟨cells, ?_, hE6, ?_⟩
    · rw [hD]; rfl
    · rw [hD]; exact hR
theorem enters_rCall : Enters Tryz.prog 10 := enters_of Tryz.func10 (by kernel_rfl) rfl
set_option maxRecDepth 100000 in
set_option maxHeartbeats 4000000 in
theorem rCall_any (P : Option (List Cls)) (x : Ins) (pv : Value) (w : World) (hP : PrgV w pv P) (hl : Len x.cls) (hf : FitP P) (hsm : ∀ o m, methD P o x.name x.desc = some m → m.code.length ≤ 200 ∧ m.hand.length ≤ 20) :
    Calls Tryz.prog 10 #[pv, .agg (Ins.cs x).toArray] w fun e w' => ∃ cells, e = .returned (.tuple #[.string (mkS (ownerR (lookD P x))), .agg cells.toArray, .int .i64 (if (lookD P x).isSome then 0 else 8)]) ∧ Ext w w' ∧ MthR Any_ w' (mthR (lookD P x)) cells := by
  have hD0 : lookD P x = match resD P x.cls x.name x.desc with
    | some (o, m) => if mayD P x o m then some (o, m) else none
    | none => none := rfl
  refine calls_W (args := [pv, .agg (Ins.cs x).toArray]) Tryz.func10 rfl rfl rfl ?_
  refine Wg rfl (W_region ?_)
  refine WL_box (cs := Ins.cs x) rfl rfl rfl rfl rfl ?_
  rintro g3 w1 hg3 hB3 hE1
  refine WL1 rfl ?_
  refine WL_alloc inf (cs := zMv) rfl rfl rfl rfl rfl ?_
  rintro g5 w2 hg5 hB5 hE2
  replace hB3 := hB3.ext hE2
  have hE := hE1.then_ hE2
  have l5 := hB5.lt
  have z1 := hE1.size
  repeat (first | refine WL1 rfl ?_ | refine WLe rfl rfl ?_ | refine W_region ?_ | refine WL2 inf rfl ?_ | refine WL_ld inf rfl rfl rfl rfl (Blk.cell (by assumption) rfl) ?_)
  refine WL_lda inf (cs := Ins.cs x) rfl rfl rfl rfl hB3.cells ?_
  refine WL_call rfl rfl rfl rfl rfl enters_rLook rfl (rLook_any P x pv w _ hP hE hl hf) ?_
  rintro e w3 ⟨cells, rfl, hE3, hR⟩
  refine ⟨_, rfl, ?_⟩
  have hz := hR.len
  have hone := MthR.one _ _ _ _ hR
  repeat (first | refine WL1 rfl ?_ | refine WLe rfl rfl ?_ | refine W_region ?_ | refine WL2 inf rfl ?_ | refine WL_ld inf rfl rfl rfl rfl (Blk.cell (by assumption) rfl) ?_)
  refine WL_sta inf (cs' := cells) rfl rfl rfl (by rw [hz]; rfl) hone rfl (hB5.ext hE3) (by rw [hz]; rfl) ?_
  rintro w4 hB4 u4
  have hE4 : Ext w w4 := u4.ext (hE.then_ hE3) (by omega)
  repeat (first | refine WL1 rfl ?_ | refine WLe rfl rfl ?_ | refine W_region ?_ | refine WL2 inf rfl ?_ | refine WL_ld inf rfl rfl rfl rfl (Blk.cell (by assumption) rfl) ?_)
  refine W_cond rfl rfl (fun hb => ?_) (fun hb => ?_)
  · have hn : lookD P x = none := by
      cases h : lookD P x with
      | none => rfl
      | some o => rw [h] at hb; cases hb
    refine Wg rfl (W_region ?_)
    refine WL_bld rfl rfl rfl rfl bldM0 ?_
    repeat (first | refine WL1 rfl ?_ | refine WLe rfl rfl ?_ | refine W_region ?_ | refine WL2 inf rfl ?_ | refine WL_ld inf rfl rfl rfl rfl (Blk.cell (by assumption) rfl) ?_)
    refine WL_sta inf (cs' := zMv) rfl rfl rfl rfl zMv_one rfl hB4 (by rw [hz]; rfl) ?_
    rintro w6 hB6 u6
    repeat (first | refine WL1 rfl ?_ | refine WLe rfl rfl ?_ | refine W_region ?_ | refine WL2 inf rfl ?_ | refine WL_ld inf rfl rfl rfl rfl (Blk.cell (by assumption) rfl) ?_)
    refine W_retL [.string (mkS []), .agg zMv.toArray, .int .i64 8] rfl rfl ⟨rfl, ⟨_, rfl, loadVar_agg inf rfl hB6.cells⟩, rfl, trivial⟩ ⟨zMv, ?_, u6.ext hE4 (by omega), ?_⟩
    · rw [hn]; rfl
    · rw [hn]; exact zeroM_rep _ _
  · obtain ⟨⟨o, m⟩, ho⟩ : ∃ o, lookD P x = some o := by
      cases h : lookD P x with
      | none => rw [h] at hb; cases hb
      | some o => exact ⟨o, rfl⟩
    rw [ho] at hR hD0
    rw [ho]
    have hsmall : m.code.length ≤ 549755813888 ∧ m.hand.length ≤ 549755813888 := by
      have h9 : resD P x.cls x.name x.desc = some (o, m) := by
        cases h : resD P x.cls x.name x.desc with
        | none => rw [h] at hD0; cases hD0
        | some q =>
          rw [h] at hD0
          dsimp only at hD0
          split at hD0
          · exact hD0.symm
          · cases hD0
      unfold resD at h9
      obtain ⟨x, _, hx⟩ := List.exists_of_findSome?_eq_some h9
      rw [Option.map_eq_some_iff] at hx
      obtain ⟨m', hm', he⟩ := hx
      cases he
      have := hsm _ _ hm'
      exact ⟨by omega, by omega⟩
    have hR3 : MthR Any_ w4 m cells := MthR.mono _ _ _ _ _ _ hR hE4.keeps fun _ h => h
    obtain ⟨c4, h4, rfl, -⟩ := hR
    refine Wg rfl (W_region ?_)
    repeat (first | refine WL1 rfl ?_ | refine WLe rfl rfl ?_ | refine W_region ?_ | refine WL2 inf rfl ?_ | refine WL_ld inf rfl rfl rfl rfl (Blk.cell (by assumption) rfl) ?_)
    refine WL_lda inf (cs := Mth.cs m c4 h4) rfl rfl rfl rfl hB4.cells ?_
    refine WL_call rfl rfl rfl rfl rfl enters_ownm rfl (ownm_any m c4 h4 _ hR3 hsmall) ?_
    rintro e w5 ⟨c5, h5, rfl, hE5, hR5⟩
    refine ⟨_, rfl, ?_⟩
    have hone5 := MthR.one _ _ _ _ hR5
    have hB5 := hB4.ext hE5
    have hlt9 := hB4.lt
    repeat (first | refine WL1 rfl ?_ | refine WLe rfl rfl ?_ | refine W_region ?_ | refine WL2 inf rfl ?_ | refine WL_ld inf rfl rfl rfl rfl (Blk.cell (by assumption) rfl) ?_)
    refine WL_sta inf (cs' := Mth.cs m c5 h5) rfl rfl rfl rfl hone5 rfl hB5 rfl ?_
    rintro w6 hB6 u6
    repeat (first | refine WL1 rfl ?_ | refine WLe rfl rfl ?_ | refine W_region ?_ | refine WL2 inf rfl ?_ | refine WL_ld inf rfl rfl rfl rfl (Blk.cell (by assumption) rfl) ?_)
    refine W_retL [.string (mkS o), .agg (Mth.cs m c5 h5).toArray, .int .i64 0] rfl rfl ⟨rfl, ⟨_, rfl, loadVar_agg inf rfl hB6.cells⟩, rfl, trivial⟩ ⟨Mth.cs m c5 h5, rfl, u6.ext (hE4.then_ hE5) (by omega), ?_⟩
    exact MthR.mono _ _ _ _ _ _ hR5 (u6.keeps fun b hb e => by have := hb.1; omega) fun _ _ => trivial
/-- Whose initialisation an instruction asks for. -/
def initO (P : Option (List Cls)) (x : Ins) : L :=
  if x.op = 21 then (if (findP P x.cls).isSome then x.cls else [])
  else if x.op = 24 ∨ x.op = 25 then (fieldD P x.cls x.name x.desc true).getD []
  else if x.op = 32 then ownerR (lookD P x) else []
def initD (P : Option (List Cls)) (x : Ins) : L := if (initO P x == sysS && x.op == 32) = true then [] else initO P x
theorem enters_initializes : Enters Tryz.prog 13 := enters_of Tryz.func13 (by kernel_rfl) rfl
set_option maxRecDepth 100000 in
set_option maxHeartbeats 4000000 in
theorem initializes_any (P : Option (List Cls)) (x : Ins) (pv : Value) (w : World) (hP : PrgV w pv P) (hl : Len x.cls) (hf : FitP P) :
    Calls Tryz.prog 13 #[pv, .agg (Ins.cs x).toArray] w fun e w' => e = .returned (.string (mkS (initD P x))) ∧ Ext w w' := by
  have hO : initO P x = if x.op = 21 then (if (findP P x.cls).isSome then x.cls else [])
    else if x.op = 24 ∨ x.op = 25 then (fieldD P x.cls x.name x.desc true).getD []
    else if x.op = 32 then ownerR (lookD P x) else [] := rfl
  refine calls_W (args := [pv, .agg (Ins.cs x).toArray]) Tryz.func13 rfl rfl rfl ?_
  refine Wg rfl (W_region ?_)
  refine WL_box (cs := Ins.cs x) rfl rfl rfl rfl rfl ?_
  rintro g3 w1 hg3 hB3 hE
  repeat (first | refine WL1 rfl ?_ | refine WLe rfl rfl ?_ | refine W_region ?_ | refine WL2 inf rfl ?_ | refine WL_ld inf rfl rfl rfl rfl (Blk.cell (by assumption) rfl) ?_)
  refine W_cutB (fun o : L => [(3, [], .pointer (some ⟨g3, 0, none⟩)), (4, [], .string (mkS o))]) (fun o W => Ext w W ∧ Blk W g3 23 (Ins.cs x) ∧ o = initO P x) ?_ ?_
  · refine W_cond rfl rfl (fun h1 => ?_) (fun h1 => ?_)
    · rw [if_pos (by simpa using h1)] at hO
      refine Wg rfl (W_region ?_)
      repeat (first | refine WL1 rfl ?_ | refine WLe rfl rfl ?_ | refine W_region ?_ | refine WL2 inf rfl ?_ | refine WL_ld inf rfl rfl rfl rfl (Blk.cell (by assumption) rfl) ?_)
      refine WL_call rfl rfl rfl rfl rfl enters_look rfl (look_any P x.cls pv _ (hP.ext hE)) ?_
      rintro e w3 ⟨cells, rfl, hE3, hR⟩
      refine ⟨_, rfl, ?_⟩
      have hz := hR.len
      have hone := ClsR.one _ _ _ _ hR
      replace hB3 := hB3.ext hE3
      have l3 := hB3.lt
      repeat (first | refine WL1 rfl ?_ | refine WLe rfl rfl ?_ | refine W_region ?_ | refine WL2 inf rfl ?_ | refine WL_ld inf rfl rfl rfl rfl (Blk.cell (by assumption) rfl) ?_)
      refine WL_alloc inf rfl rfl rfl rfl rfl ?_
      rintro g9 w4 hg9 hB9 hE4
      refine WL_sta inf (cs' := cells) rfl rfl rfl (by rw [hz]; rfl) hone rfl hB9 (by rw [hz]; rfl) ?_
      rintro w5 hB9' u5
      replace hB3 := u5.blk (hB3.ext hE4) (by omega)
      have hE5 : Ext w w5 := u5.ext ((hE.then_ hE3).then_ hE4) (by have := (hE.then_ hE3).size; omega)
      repeat (first | refine WL1 rfl ?_ | refine WLe rfl rfl ?_ | refine W_region ?_ | refine WL2 inf rfl ?_ | refine WL_ld inf rfl rfl rfl rfl (Blk.cell (by assumption) rfl) ?_)
      refine W_cond rfl rfl (fun h2 => ?_) (fun h2 => ?_)
      · rw [if_pos h2] at hO
        refine Wg rfl (W_region ?_)
        repeat (first | refine WL1 rfl ?_ | refine WLe rfl rfl ?_ | refine W_region ?_ | refine WL2 inf rfl ?_ | refine WL_ld inf rfl rfl rfl rfl (Blk.cell (by assumption) rfl) ?_)
        exact WLm rfl x.cls ⟨hE5, hB3, hO.symm⟩ rfl ⟨rfl, rfl, trivial⟩
      · rw [if_neg (by rw [h2]; simp)] at hO
        exact Wm rfl [] ⟨hE5, hB3, hO.symm⟩ rfl ⟨rfl, rfl, trivial⟩
    · rw [if_neg (by simpa using h1)] at hO
      refine Wg rfl (W_region ?_)
      repeat (first | refine WL1 rfl ?_ | refine WLe rfl rfl ?_ | refine W_region ?_ | refine WL2 inf rfl ?_ | refine WL_ld inf rfl rfl rfl rfl (Blk.cell (by assumption) rfl) ?_)
      refine W_cut (fun b : Bool => [(0, [], pv), (3, [], .pointer (some ⟨g3, 0, none⟩)), (4, [], .string (mkS [])), (8, [], .int .i64 x.op), (21, [], .bool b)]) (fun b W => Ext w W ∧ Blk W g3 23 (Ins.cs x) ∧ b = decide (x.op = 24 ∨ x.op = 25)) ?_ ?_
      · refine W_cond rfl rfl (fun h2 => ?_) (fun h2 => ?_)
        · refine Wm rfl (x.op == 24) ⟨hE, hB3, ?_⟩ rfl ⟨rfl, rfl, rfl, rfl, rfl, trivial⟩
          have h3 : x.op = 24 := by simpa using h2
          simp [h3]
        · refine Wg rfl (W_region ?_)
          repeat (first | refine WL1 rfl ?_ | refine WLe rfl rfl ?_ | refine W_region ?_ | refine WL2 inf rfl ?_ | refine WL_ld inf rfl rfl rfl rfl (Blk.cell (by assumption) rfl) ?_)
          refine WLm rfl (x.op == 25) ⟨hE, hB3, ?_⟩ rfl ⟨rfl, rfl, rfl, rfl, rfl, trivial⟩
          have h3 : ¬ x.op = 24 := by simpa using h2
          by_cases h4 : x.op = 25
          · simp [h4]
          · simp [h3, h4]
      · rintro b W ⟨hE, hB3, rfl⟩
        refine W_cond rfl rfl (fun h2 => ?_) (fun h2 => ?_)
        · rw [if_pos (by simpa using h2)] at hO
          refine Wg rfl (W_region ?_)
          repeat (first | refine WL1 rfl ?_ | refine WLe rfl rfl ?_ | refine W_region ?_ | refine WL2 inf rfl ?_ | refine WL_ld inf rfl rfl rfl rfl (Blk.cell (by assumption) rfl) ?_)
          refine WL_call rfl rfl rfl rfl rfl enters_rField rfl (rField_any P x.cls x.name x.desc true pv _ (hP.ext hE) hl hf) ?_
          rintro e w3 ⟨rfl, hE3⟩
          refine ⟨_, rfl, ?_⟩
          repeat (first | refine WL1 rfl ?_ | refine WLe rfl rfl ?_ | refine W_region ?_ | refine WL2 inf rfl ?_ | refine WL_ld inf rfl rfl rfl rfl (Blk.cell (by assumption) rfl) ?_)
          exact WLm rfl _ ⟨hE.then_ hE3, hB3.ext hE3, hO.symm⟩ rfl ⟨rfl, rfl, trivial⟩
        · rw [if_neg (by simpa using h2)] at hO
          refine Wg rfl (W_region ?_)
          repeat (first | refine WL1 rfl ?_ | refine WLe rfl rfl ?_ | refine W_region ?_ | refine WL2 inf rfl ?_ | refine WL_ld inf rfl rfl rfl rfl (Blk.cell (by assumption) rfl) ?_)
          refine W_cond rfl rfl (fun h3 => ?_) (fun h3 => ?_)
          · rw [if_pos (by simpa using h3)] at hO
            refine Wg rfl (W_region ?_)
            repeat (first | refine WL1 rfl ?_ | refine WLe rfl rfl ?_ | refine W_region ?_ | refine WL2 inf rfl ?_ | refine WL_ld inf rfl rfl rfl rfl (Blk.cell (by assumption) rfl) ?_)
            refine WL_lda inf (cs := Ins.cs x) rfl rfl rfl rfl hB3.cells ?_
            refine WL_call rfl rfl rfl rfl rfl enters_rLook rfl (rLook_any P x pv w _ hP hE hl hf) ?_
            rintro e w3 ⟨cells, rfl, hE3, hR⟩
            refine ⟨_, rfl, ?_⟩
            repeat (first | refine WL1 rfl ?_ | refine WLe rfl rfl ?_ | refine W_region ?_ | refine WL2 inf rfl ?_ | refine WL_ld inf rfl rfl rfl rfl (Blk.cell (by assumption) rfl) ?_)
            exact WLm rfl _ ⟨hE.then_ hE3, hB3.ext hE3, hO.symm⟩ rfl ⟨rfl, rfl, trivial⟩
          · rw [if_neg (by simpa using h3)] at hO
            exact Wm rfl [] ⟨hE, hB3, hO.symm⟩ rfl ⟨rfl, rfl, trivial⟩
  · rintro o W ⟨hE, hB3, rfl⟩
    refine Wg rfl (W_region ?_)
    repeat (first | refine WL1 rfl ?_ | refine WLe rfl rfl ?_ | refine W_region ?_ | refine WL2 inf rfl ?_ | refine WL_ld inf rfl rfl rfl rfl (Blk.cell (by assumption) rfl) ?_)
    refine WL_callq rfl rfl rfl rfl rfl enters_native rfl (fun _ => native_any _ _) ?_
    repeat (first | refine WL1 rfl ?_ | refine WLe rfl rfl ?_ | refine W_region ?_ | refine WL2 inf rfl ?_ | refine WL_ld inf rfl rfl rfl rfl (Blk.cell (by assumption) rfl) ?_)
    refine W_cond rfl rfl (fun hb => ?_) (fun hb => ?_)
    · refine Wg rfl (W_region ?_)
      repeat (first | refine WL1 rfl ?_ | refine WLe rfl rfl ?_ | refine W_region ?_ | refine WL2 inf rfl ?_ | refine WL_ld inf rfl rfl rfl rfl (Blk.cell (by assumption) rfl) ?_)
      refine W_ret1 rfl rfl rfl ⟨?_, hE⟩
      unfold initD
      rw [if_pos hb]
      rfl
    · refine Wg rfl (W_region ?_)
      repeat (first | refine WL1 rfl ?_ | refine WLe rfl rfl ?_ | refine W_region ?_ | refine WL2 inf rfl ?_ | refine WL_ld inf rfl rfl rfl rfl (Blk.cell (by assumption) rfl) ?_)
      refine W_ret1 rfl rfl rfl ⟨?_, hE⟩
      unfold initD
      rw [if_neg (by rw [show (initO P x == sysS && x.op == 32) = false from hb]; simp)]
end Go.Proofs.YtoalmjciodlkaaaGreat
