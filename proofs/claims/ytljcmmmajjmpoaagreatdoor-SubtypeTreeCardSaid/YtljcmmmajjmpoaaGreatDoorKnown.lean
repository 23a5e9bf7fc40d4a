/- instr: known, Of and the small tests. -/
import Derived.Test.YtljcmmmajjmpoaaGreatDoorTable
namespace Go.Proofs.YtljcmmmajjmpoaaGreatDoor
open Go.RowKit Sp

theorem row_at : ∀ k : Nat, 1 ≤ k → k ≤ 38 → (tableC.drop (k * 8)).take 8 = (opRow k).cs
  | 0, h, _ => by omega
  | 1, _, _ => rfl
  | 2, _, _ => rfl
  | 3, _, _ => rfl
  | 4, _, _ => rfl
  | 5, _, _ => rfl
  | 6, _, _ => rfl
  | 7, _, _ => rfl
  | 8, _, _ => rfl
  | 9, _, _ => rfl
  | 10, _, _ => rfl
  | 11, _, _ => rfl
  | 12, _, _ => rfl
  | 13, _, _ => rfl
  | 14, _, _ => rfl
  | 15, _, _ => rfl
  | 16, _, _ => rfl
  | 17, _, _ => rfl
  | 18, _, _ => rfl
  | 19, _, _ => rfl
  | 20, _, _ => rfl
  | 21, _, _ => rfl
  | 22, _, _ => rfl
  | 23, _, _ => rfl
  | 24, _, _ => rfl
  | 25, _, _ => rfl
  | 26, _, _ => rfl
  | 27, _, _ => rfl
  | 28, _, _ => rfl
  | 29, _, _ => rfl
  | 30, _, _ => rfl
  | 31, _, _ => rfl
  | 32, _, _ => rfl
  | 33, _, _ => rfl
  | 34, _, _ => rfl
  | 35, _, _ => rfl
  | 36, _, _ => rfl
  | 37, _, _ => rfl
  | 38, _, _ => rfl
  | k + 39, _, h => by omega
theorem index238 (i : Int) (h0 : 0 ≤ i) (h1 : i < 39) (w : World) : (Instr.index 204 (.agg tableC.toArray) (.int .i64 i)).run Tryz.prog w = .ok (.agg ((tableC.drop (i.toNat * 8)).take 8).toArray) w := by
  have hz : (sizeOf 195).run Tryz.prog w = .ok 8 w := Tryz.sizeOf195 w
  have ha : (isAgg 195).run Tryz.prog w = .ok true w := Tryz.isAgg195 w
  have hl := tableC_len
  have hle : i.toNat * 8 + 8 ≤ 312 := by omega
  simp [Instr.index, asIntOf, run_underlying Tryz.underlying204, part, hz, ha, h0, h1, hl, hle]
theorem enters_known : Enters Tryz.prog 187 := enters_of Tryz.func187 (by kernel_rfl) rfl
def knownR (op : Int) : OpRow := if isOp op then opRow op.toNat else noRow
theorem known_any (op : Int) (w : World) : Calls Tryz.prog 187 #[.int .i64 op] w fun e w' => e = .returned (.tuple #[.agg (knownR op).cs.toArray, .bool (isOp op)]) ∧ Ext w w' := by
  refine calls_W (args := [.int .i64 op]) Tryz.func187 rfl rfl rfl ?_
  refine Wg rfl (W_region ?_)
  refine WL_alloc inf (cs := noRow.cs) rfl rfl rfl rfl rfl ?_
  rintro g w1 hg hB hE
  repeat (first | refine WL1 rfl ?_ | refine WLe rfl rfl ?_ | refine W_region ?_)
  refine W_cond rfl rfl (fun hb => ?_) (fun hb => ?_)
  · have hno : isOp op = false := by simp only [Bool.or_eq_true, decide_eq_true_eq] at hb; unfold isOp; rw [Bool.and_eq_false_iff]; simp; omega
    refine Wg rfl (W_region ?_)
    refine WL_bld rfl rfl rfl rfl bld225_0 ?_
    refine WL_sta inf (cs' := noRow.cs) rfl rfl rfl rfl (by simp [Sp.OpRow.cs, Value.oneCell']) rfl hB rfl ?_
    rintro w2 hB2 u
    repeat (first | refine WL1 rfl ?_ | refine WLe rfl rfl ?_ | refine W_region ?_)
    refine W_retL [.agg noRow.cs.toArray, .bool false] rfl rfl ⟨⟨_, rfl, loadVar_agg inf rfl hB2.cells⟩, rfl, trivial⟩ ⟨?_, u.ext hE (by omega)⟩
    rw [hno, knownR, hno]; rfl
  · have hyes : isOp op = true := by simp only [Bool.or_eq_false_iff, decide_eq_false_iff_not] at hb; unfold isOp; simp; omega
    have hr : 1 ≤ op ∧ op ≤ 38 := by unfold isOp at hyes; simpa using hyes
    refine Wg rfl (W_region ?_)
    refine WL_call rfl rfl rfl rfl rfl enters_table rfl (table_any _) ?_
    rintro e w2 ⟨rfl, hE2⟩
    refine ⟨_, rfl, ?_⟩
    replace hB := hB.ext hE2
    repeat (first | refine WL1 rfl ?_ | refine WLe rfl rfl ?_ | refine W_region ?_)
    refine WL_val (v := .agg (knownR op).cs.toArray) rfl rfl rfl rfl rfl rfl rfl (fun _ => ?_) ?_
    · have := index238 op (by omega) (by omega) w2
      rw [row_at op.toNat (by omega) (by omega)] at this
      rw [knownR, if_pos hyes]
      simp [execOp, evG, getV, getG, this]
    refine WL_sta inf (cs' := (knownR op).cs) rfl rfl rfl rfl (by simp [Sp.OpRow.cs, Value.oneCell']) rfl hB rfl ?_
    rintro w3 hB3 u
    repeat (first | refine WL1 rfl ?_ | refine WLe rfl rfl ?_ | refine W_region ?_)
    refine W_retL [.agg (knownR op).cs.toArray, .bool true] rfl rfl ⟨⟨_, rfl, loadVar_agg inf rfl hB3.cells⟩, rfl, trivial⟩ ⟨?_, u.ext (hE.then_ hE2) (by omega)⟩
    rw [hyes]; rfl
theorem enters_of_ : Enters Tryz.prog 157 := enters_of Tryz.func157 (by kernel_rfl) rfl
theorem knownR_sh (op : Int) : (knownR op).sh = shapeD op := by unfold knownR shapeD; split <;> rfl
theorem of_any (op : Int) (w : World) : Calls Tryz.prog 157 #[.int .i64 op] w fun e w' => e = .returned (.tuple #[.agg (shapeD op).cs.toArray, .bool (isOp op)]) ∧ Ext w w' := by
  refine calls_W (args := [.int .i64 op]) Tryz.func157 rfl rfl rfl ?_
  refine Wg rfl (W_region ?_)
  refine WL_alloc inf (cs := noRow.sh.cs) rfl rfl rfl rfl rfl ?_
  rintro g w1 hg hB hE
  repeat (first | refine WL1 rfl ?_ | refine WLe rfl rfl ?_ | refine W_region ?_)
  refine WL_call rfl rfl rfl rfl rfl enters_known rfl (known_any op _) ?_
  rintro e w2 ⟨rfl, hE2⟩
  refine ⟨_, rfl, ?_⟩
  have hlt := hB.lt
  replace hB := hB.ext hE2
  repeat (first | refine WL1 rfl ?_ | refine WLe rfl rfl ?_ | refine W_region ?_)
  refine WL_alloc inf (cs := noRow.cs) rfl rfl rfl rfl rfl ?_
  rintro g' w3 hg' hB' hE3
  replace hB := hB.ext hE3
  refine WL_sta inf (cs' := (knownR op).cs) rfl rfl rfl rfl (by simp [Sp.OpRow.cs, Value.oneCell']) rfl hB' rfl ?_
  rintro w4 hB4 u4
  have l1 := hlt
  have s2 := hE2.size
  have hne : g ≠ g' := by omega
  replace hB := u4.blk hB hne
  repeat (first | refine WL1 rfl ?_ | refine WLe rfl rfl ?_ | refine W_region ?_)
  refine WL2 inf rfl ?_
  refine WL_lda inf (cs := (knownR op).sh.cs) rfl rfl rfl rfl (hB4.cells.sub 1 (rest := [_, _]) rfl) ?_
  repeat (first | refine WL1 rfl ?_ | refine WLe rfl rfl ?_ | refine W_region ?_)
  refine WL_sta inf (cs' := (knownR op).sh.cs) rfl rfl rfl rfl (by simp [Sp.Sh.cs, Value.oneCell']) rfl hB rfl ?_
  rintro w5 hB5 u5
  repeat (first | refine WL1 rfl ?_ | refine WLe rfl rfl ?_ | refine W_region ?_)
  refine W_retL [.agg (knownR op).sh.cs.toArray, .bool (isOp op)] rfl rfl ⟨⟨_, rfl, loadVar_agg inf rfl hB5.cells⟩, rfl, trivial⟩ ⟨by rw [knownR_sh]; rfl, u5.ext (u4.ext ((hE.then_ hE2).then_ hE3) (by have := hE.size; omega)) (by omega)⟩

def rngB (n a b : Int) : Bool := decide (a ≤ n) && decide (n ≤ b)
theorem enters_iwithin : Enters Tryz.prog 158 := enters_of Tryz.func158 (by kernel_rfl) rfl
theorem iwithin_any (n a b : Int) (w : World) : Calls Tryz.prog 158 #[.int .i64 n, .int .i64 a, .int .i64 b] w fun e w' => e = .returned (.bool (rngB n a b)) ∧ w = w' := by
  refine calls_W (args := [.int .i64 n, .int .i64 a, .int .i64 b]) Tryz.func158 rfl rfl rfl ?_
  refine Wg rfl (W_region ?_)
  repeat (first | refine WL1 rfl ?_ | refine WLe rfl rfl ?_ | refine W_region ?_)
  exact W_ret1 rfl rfl rfl ⟨rfl, rfl⟩
theorem enters_jumps : Enters Tryz.prog 160 := enters_of Tryz.func160 (by kernel_rfl) rfl
theorem jumps_any (n : Int) (w : World) : Calls Tryz.prog 160 #[.int .i64 n] w fun e w' => e = .returned (.bool (rngB n 17 20)) ∧ w = w' := by
  refine calls_W (args := [.int .i64 n]) Tryz.func160 rfl rfl rfl ?_
  refine Wg rfl (W_region ?_)
  repeat (first | refine WL1 rfl ?_ | refine WLe rfl rfl ?_ | refine W_region ?_)
  exact W_ret1 rfl rfl rfl ⟨rfl, rfl⟩
theorem enters_field : Enters Tryz.prog 188 := enters_of Tryz.func188 (by kernel_rfl) rfl
theorem field_any (n : Int) (w : World) : Calls Tryz.prog 188 #[.int .i64 n] w fun e w' => e = .returned (.bool (rngB n 22 25)) ∧ w = w' := by
  refine calls_W (args := [.int .i64 n]) Tryz.func188 rfl rfl rfl ?_
  refine Wg rfl (W_region ?_)
  repeat (first | refine WL1 rfl ?_ | refine WLe rfl rfl ?_ | refine W_region ?_)
  exact W_ret1 rfl rfl rfl ⟨rfl, rfl⟩
theorem enters_icall : Enters Tryz.prog 189 := enters_of Tryz.func189 (by kernel_rfl) rfl
theorem icall_any (n : Int) (w : World) : Calls Tryz.prog 189 #[.int .i64 n] w fun e w' => e = .returned (.bool (rngB n 32 35)) ∧ w = w' := by
  refine calls_W (args := [.int .i64 n]) Tryz.func189 rfl rfl rfl ?_
  refine Wg rfl (W_region ?_)
  repeat (first | refine WL1 rfl ?_ | refine WLe rfl rfl ?_ | refine W_region ?_)
  exact W_ret1 rfl rfl rfl ⟨rfl, rfl⟩
theorem enters_cwithin : Enters Tryz.prog 155 := enters_of Tryz.func155 (by kernel_rfl) rfl
theorem cwithin_any (n a b : Int) (w : World) : Calls Tryz.prog 155 #[.int .i64 n, .int .i64 a, .int .i64 b] w fun e w' => e = .returned (.bool (rngB n a b)) ∧ w = w' := by
  refine calls_W (args := [.int .i64 n, .int .i64 a, .int .i64 b]) Tryz.func155 rfl rfl rfl ?_
  refine Wg rfl (W_region ?_)
  repeat (first | refine WL1 rfl ?_ | refine WLe rfl rfl ?_ | refine W_region ?_)
  exact W_ret1 rfl rfl rfl ⟨rfl, rfl⟩
end Go.Proofs.YtljcmmmajjmpoaaGreatDoor
