/- Small ones: cmp.Compare of texts, link.Classes$1. -/
import Derived.Test.YtljcmmmajjmpoaaGreatDoorHas
namespace Go.Proofs.YtljcmmmajjmpoaaGreatDoor
open Go.RowKit Sp

theorem enters_isNaN : Enters Tryz.prog 95 := enters_of Tryz.func95 (by kernel_rfl) rfl
theorem isNaN_any (s : L) (w : World) : Calls Tryz.prog 95 #[.string (mkS s)] w fun e w' => e = .returned (.bool false) ∧ w = w' := by
  refine calls_W (args := [.string (mkS s)]) Tryz.func95 rfl rfl rfl ?_
  refine Wg rfl (W_region ?_)
  repeat (first | refine WL1 rfl ?_ | refine WLe rfl rfl ?_ | refine W_region ?_ | refine WL2 inf rfl ?_ | refine WL_ld inf rfl rfl rfl rfl (Blk.cell (by assumption) rfl) ?_)
  exact W_ret1 rfl rfl rfl ⟨ret_bool (by simp), rfl⟩
/-- cmp.Compare of texts. -/
def cmpS (a b : L) : Int := if Op.bytesLess a b then -1 else if (!(Op.bytesLess a b || a == b)) then 1 else 0
theorem enters_compare : Enters Tryz.prog 56 := enters_of Tryz.func56 (by kernel_rfl) rfl
theorem compare_any (a b : L) (w : World) : Calls Tryz.prog 56 #[.string (mkS a), .string (mkS b)] w fun e w' => e = .returned (.int .i64 (cmpS a b)) ∧ w = w' := by
  refine calls_W (args := [.string (mkS a), .string (mkS b)]) Tryz.func56 rfl rfl rfl ?_
  refine Wg rfl (W_region ?_)
  repeat (first | refine WL1 rfl ?_ | refine WLe rfl rfl ?_ | refine W_region ?_ | refine WL2 inf rfl ?_ | refine WL_ld inf rfl rfl rfl rfl (Blk.cell (by assumption) rfl) ?_)
  refine WL_callq rfl rfl rfl rfl rfl enters_isNaN rfl (fun _ => isNaN_any a _) ?_
  repeat (first | refine WL1 rfl ?_ | refine WLe rfl rfl ?_ | refine W_region ?_ | refine WL2 inf rfl ?_ | refine WL_ld inf rfl rfl rfl rfl (Blk.cell (by assumption) rfl) ?_)
  refine WL_callq rfl rfl rfl rfl rfl enters_isNaN rfl (fun _ => isNaN_any b _) ?_
  repeat (first | refine WL1 rfl ?_ | refine WLe rfl rfl ?_ | refine W_region ?_ | refine WL2 inf rfl ?_ | refine WL_ld inf rfl rfl rfl rfl (Blk.cell (by assumption) rfl) ?_)
  refine W_false rfl rfl ?_
  refine Wg rfl (W_region ?_)
  repeat (first | refine WL1 rfl ?_ | refine WLe rfl rfl ?_ | refine W_region ?_ | refine WL2 inf rfl ?_ | refine WL_ld inf rfl rfl rfl rfl (Blk.cell (by assumption) rfl) ?_)
  refine W_false rfl rfl ?_
  refine Wg rfl (W_region ?_)
  repeat (first | refine WL1 rfl ?_ | refine WLe rfl rfl ?_ | refine W_region ?_ | refine WL2 inf rfl ?_ | refine WL_ld inf rfl rfl rfl rfl (Blk.cell (by assumption) rfl) ?_)
  refine W_cond rfl rfl (fun hb => ?_) (fun hb => ?_)
  · rw [bl_mk, bl_mk] at hb
    refine Wg rfl (W_region ?_)
    repeat (first | refine WL1 rfl ?_ | refine WLe rfl rfl ?_ | refine W_region ?_ | refine WL2 inf rfl ?_ | refine WL_ld inf rfl rfl rfl rfl (Blk.cell (by assumption) rfl) ?_)
    refine W_ret1 rfl rfl rfl ⟨ret_int ?_, rfl⟩
    unfold cmpS
    rw [if_pos hb]
  · rw [bl_mk, bl_mk] at hb
    refine Wg rfl (W_region ?_)
    repeat (first | refine WL1 rfl ?_ | refine WLe rfl rfl ?_ | refine W_region ?_ | refine WL2 inf rfl ?_ | refine WL_ld inf rfl rfl rfl rfl (Blk.cell (by assumption) rfl) ?_)
    refine W_cond rfl rfl (fun hc => ?_) (fun hc => ?_)
    · rw [bl_mk, bl_mk] at hc
      refine Wg rfl (W_region ?_)
      repeat (first | refine WL1 rfl ?_ | refine WLe rfl rfl ?_ | refine W_region ?_ | refine WL2 inf rfl ?_ | refine WL_ld inf rfl rfl rfl rfl (Blk.cell (by assumption) rfl) ?_)
      refine W_ret1 rfl rfl rfl ⟨ret_int ?_, rfl⟩
      unfold cmpS
      rw [if_neg (by rw [hb]; simp), if_pos hc]
    · rw [bl_mk, bl_mk] at hc
      refine Wg rfl (W_region ?_)
      repeat (first | refine WL1 rfl ?_ | refine WLe rfl rfl ?_ | refine W_region ?_ | refine WL2 inf rfl ?_ | refine WL_ld inf rfl rfl rfl rfl (Blk.cell (by assumption) rfl) ?_)
      refine W_ret1 rfl rfl rfl ⟨ret_int ?_, rfl⟩
      unfold cmpS
      rw [if_neg (by rw [hb]; simp), if_neg (by rw [hc]; simp)]
theorem enters_classes1 : Enters Tryz.prog 55 := enters_of Tryz.func55 (by kernel_rfl) rfl
theorem classes1_any (a b : Cls) (i1 f1 m1 i2 f2 m2 : Value) (w : World) : Calls Tryz.prog 55 #[.agg (Cls.cs a i1 f1 m1).toArray, .agg (Cls.cs b i2 f2 m2).toArray] w fun e w' => e = .returned (.int .i64 (cmpS a.name b.name)) ∧ Ext w w' := by
  refine calls_W (args := [.agg (Cls.cs a i1 f1 m1).toArray, .agg (Cls.cs b i2 f2 m2).toArray]) Tryz.func55 rfl rfl rfl ?_
  refine Wg rfl (W_region ?_)
  refine WL_box (cs := Cls.cs a i1 f1 m1) rfl rfl rfl rfl rfl ?_
  rintro g2 w2 hg2 hB2 hE2
  refine WL_box (cs := Cls.cs b i2 f2 m2) rfl rfl rfl rfl rfl ?_
  rintro g3 w3 hg3 hB3 hE3
  replace hB2 := hB2.ext hE3
  repeat (first | refine WL1 rfl ?_ | refine WLe rfl rfl ?_ | refine W_region ?_ | refine WL2 inf rfl ?_ | refine WL_ld inf rfl rfl rfl rfl (Blk.cell (by assumption) rfl) ?_)
  refine WL_callq rfl rfl rfl rfl rfl enters_compare rfl (fun _ => compare_any a.name b.name _) ?_
  repeat (first | refine WL1 rfl ?_ | refine WLe rfl rfl ?_ | refine W_region ?_ | refine WL2 inf rfl ?_ | refine WL_ld inf rfl rfl rfl rfl (Blk.cell (by assumption) rfl) ?_)
  exact W_ret1 rfl rfl rfl ⟨rfl, hE2.then_ hE3⟩
end Go.Proofs.YtljcmmmajjmpoaaGreatDoor
