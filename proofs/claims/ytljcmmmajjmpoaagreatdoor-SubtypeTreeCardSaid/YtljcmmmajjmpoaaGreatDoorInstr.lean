/- instr.named, instr.Check. -/
import Derived.Test.YtljcmmmajjmpoaaGreatDoorKnown
namespace Go.Proofs.YtljcmmmajjmpoaaGreatDoor
open Go.RowKit Sp

theorem nextD_len : ∀ (l : L) (d : Nat) (r : L), nextD d l = some r → l.length ≤ r.length + (5 - d) + 33
  | [], _, _, h => by simp [nextD] at h
  | c :: l, d, r, h => by
    unfold nextD at h
    split at h
    · cases h
    · split at h
      · have := nextD_len l (d + 1) r h
        simp; omega
      · split at h
        · cases h; simp; omega
        · split at h
          · cases h
          · rename_i h1 h2 h3 h4
            cases h
            have h5 : ¬ nameB (((c :: l).take (Lib.indexByte (c :: l) 59).toNat).drop 1) = false := fun e => h4 (.inr (.inr e))
            have h6 := indexByte_lt (c :: l) 59
            unfold nameB at h5
            simp only [Bool.not_eq_false, Bool.and_eq_true, decide_eq_true_eq, List.length_drop, List.length_take] at h5
            simp only [List.length_drop, List.length_cons] at h5 h6 ⊢
            omega
theorem typeB_len {l : L} (h : typeB l = true) : l.length ≤ 38 := by
  unfold typeB at h
  have := nextD_len l 0 [] (by simpa using h)
  simpa using this
def namedI (x : Ins) : Bool :=
  if x.op == 21 then nameB x.cls
  else if rngB x.op 22 25 then nameB x.cls && nameB x.name && typeB x.desc
  else if rngB x.op 32 35 then nameB x.cls && (nameB x.name || x.name == init_ && x.op == 33) && (methodV x.desc).2.2 == 0
  else if x.op == 26 then typeB x.desc && !(arrayS x.desc).isEmpty
  else if x.op == 30 || x.op == 31 then typeB x.desc && !(x.desc == [73]) && !(x.desc == [67])
  else true
theorem enters_inamed : Enters Tryz.prog 159 := enters_of Tryz.func159 (by kernel_rfl) rfl
theorem inamed_any (x : Ins) (w : World) (ho : Ins.ok x) : Calls Tryz.prog 159 #[.agg (Ins.cs x).toArray] w fun e w' => e = .returned (.bool (namedI x)) ∧ Ext w w' := by
  obtain ⟨ho1, ho2, ho3⟩ := ho
  refine calls_W (args := [.agg (Ins.cs x).toArray]) Tryz.func159 rfl rfl rfl ?_
  refine Wg rfl (W_region ?_)
  refine WL_box (cs := Ins.cs x) rfl rfl rfl rfl rfl ?_
  rintro g w1 hg hB hE
  repeat (first | refine WL1 rfl ?_ | refine WLe rfl rfl ?_ | refine W_region ?_ | refine WL2 inf rfl ?_ | refine WL_ld inf rfl rfl rfl rfl (Blk.cell (by assumption) rfl) ?_)
  refine WL_call rfl rfl rfl rfl rfl enters_method rfl (method_any x.desc _ ho3) ?_
  rintro e w2 ⟨v, rfl, hE2, -⟩
  refine ⟨_, rfl, ?_⟩
  replace hE := hE.then_ hE2
  replace hB := hB.ext hE2
  repeat (first | refine WL1 rfl ?_ | refine WLe rfl rfl ?_ | refine W_region ?_ | refine WL2 inf rfl ?_ | refine WL_ld inf rfl rfl rfl rfl (Blk.cell (by assumption) rfl) ?_)
  refine W_cond rfl rfl (fun hb => ?_) (fun hb => ?_)
  · refine Wg rfl (W_region ?_)
    repeat (first | refine WL1 rfl ?_ | refine WLe rfl rfl ?_ | refine W_region ?_ | refine WL2 inf rfl ?_ | refine WL_ld inf rfl rfl rfl rfl (Blk.cell (by assumption) rfl) ?_)
    refine WL_callq rfl rfl rfl rfl rfl enters_name rfl (fun _ => name_any x.cls _ ho1) ?_
    repeat (first | refine WL1 rfl ?_ | refine WLe rfl rfl ?_ | refine W_region ?_ | refine WL2 inf rfl ?_ | refine WL_ld inf rfl rfl rfl rfl (Blk.cell (by assumption) rfl) ?_)
    refine W_ret1 rfl rfl rfl ⟨ret_bool ?_, hE⟩
    simp [namedI, hb]
  · refine Wg rfl (W_region ?_)
    repeat (first | refine WL1 rfl ?_ | refine WLe rfl rfl ?_ | refine W_region ?_ | refine WL2 inf rfl ?_ | refine WL_ld inf rfl rfl rfl rfl (Blk.cell (by assumption) rfl) ?_)
    refine WL_callq rfl rfl rfl rfl rfl enters_field rfl (fun _ => field_any x.op _) ?_
    repeat (first | refine WL1 rfl ?_ | refine WLe rfl rfl ?_ | refine W_region ?_ | refine WL2 inf rfl ?_ | refine WL_ld inf rfl rfl rfl rfl (Blk.cell (by assumption) rfl) ?_)
    refine W_cond rfl rfl (fun hb2 => ?_) (fun hb2 => ?_)
    · refine Wg rfl (W_region ?_)
      repeat (first | refine WL1 rfl ?_ | refine WLe rfl rfl ?_ | refine W_region ?_ | refine WL2 inf rfl ?_ | refine WL_ld inf rfl rfl rfl rfl (Blk.cell (by assumption) rfl) ?_)
      refine WL_callq rfl rfl rfl rfl rfl enters_name rfl (fun _ => name_any x.cls _ ho1) ?_
      repeat (first | refine WL1 rfl ?_ | refine WLe rfl rfl ?_ | refine W_region ?_ | refine WL2 inf rfl ?_ | refine WL_ld inf rfl rfl rfl rfl (Blk.cell (by assumption) rfl) ?_)
      refine WL_callq rfl rfl rfl rfl rfl enters_name rfl (fun _ => name_any x.name _ ho2) ?_
      repeat (first | refine WL1 rfl ?_ | refine WLe rfl rfl ?_ | refine W_region ?_ | refine WL2 inf rfl ?_ | refine WL_ld inf rfl rfl rfl rfl (Blk.cell (by assumption) rfl) ?_)
      refine WL_callq rfl rfl rfl rfl rfl enters_type rfl (fun _ => type_any x.desc _ ho3) ?_
      repeat (first | refine WL1 rfl ?_ | refine WLe rfl rfl ?_ | refine W_region ?_ | refine WL2 inf rfl ?_ | refine WL_ld inf rfl rfl rfl rfl (Blk.cell (by assumption) rfl) ?_)
      refine W_ret1 rfl rfl rfl ⟨ret_bool ?_, hE⟩
      simp [namedI, hb, hb2]
    · refine Wg rfl (W_region ?_)
      repeat (first | refine WL1 rfl ?_ | refine WLe rfl rfl ?_ | refine W_region ?_ | refine WL2 inf rfl ?_ | refine WL_ld inf rfl rfl rfl rfl (Blk.cell (by assumption) rfl) ?_)
      refine WL_callq rfl rfl rfl rfl rfl enters_icall rfl (fun _ => icall_any x.op _) ?_
      repeat (first | refine WL1 rfl ?_ | refine WLe rfl rfl ?_ | refine W_region ?_ | refine WL2 inf rfl ?_ | refine WL_ld inf rfl rfl rfl rfl (Blk.cell (by assumption) rfl) ?_)
      refine W_cond rfl rfl (fun hb3 => ?_) (fun hb3 => ?_)
      · refine Wg rfl (W_region ?_)
        repeat (first | refine WL1 rfl ?_ | refine WLe rfl rfl ?_ | refine W_region ?_ | refine WL2 inf rfl ?_ | refine WL_ld inf rfl rfl rfl rfl (Blk.cell (by assumption) rfl) ?_)
        refine WL_callq rfl rfl rfl rfl rfl enters_name rfl (fun _ => name_any x.name _ ho2) ?_
        repeat (first | refine WL1 rfl ?_ | refine WLe rfl rfl ?_ | refine W_region ?_ | refine WL2 inf rfl ?_ | refine WL_ld inf rfl rfl rfl rfl (Blk.cell (by assumption) rfl) ?_)
        refine WL_callq rfl rfl rfl rfl rfl enters_name rfl (fun _ => name_any x.cls _ ho1) ?_
        repeat (first | refine WL1 rfl ?_ | refine WLe rfl rfl ?_ | refine W_region ?_ | refine WL2 inf rfl ?_ | refine WL_ld inf rfl rfl rfl rfl (Blk.cell (by assumption) rfl) ?_)
        refine W_ret1 rfl rfl rfl ⟨ret_bool ?_, hE⟩
        simp only [namedI, hb, hb2, hb3, bl_mk]
        rfl
      · refine Wg rfl (W_region ?_)
        repeat (first | refine WL1 rfl ?_ | refine WLe rfl rfl ?_ | refine W_region ?_ | refine WL2 inf rfl ?_ | refine WL_ld inf rfl rfl rfl rfl (Blk.cell (by assumption) rfl) ?_)
        refine W_cond rfl rfl (fun hb4 => ?_) (fun hb4 => ?_)
        · refine Wg rfl (W_region ?_)
          repeat (first | refine WL1 rfl ?_ | refine WLe rfl rfl ?_ | refine W_region ?_ | refine WL2 inf rfl ?_ | refine WL_ld inf rfl rfl rfl rfl (Blk.cell (by assumption) rfl) ?_)
          refine WL_callq rfl rfl rfl rfl rfl enters_type rfl (fun _ => type_any x.desc _ ho3) ?_
          repeat (first | refine WL1 rfl ?_ | refine WLe rfl rfl ?_ | refine W_region ?_ | refine WL2 inf rfl ?_ | refine WL_ld inf rfl rfl rfl rfl (Blk.cell (by assumption) rfl) ?_)
          refine WL_callq rfl rfl rfl rfl rfl enters_array rfl (fun hs => array_any x.desc _ ?_) ?_
          · have h : typeB x.desc = true := by simpa [satB, getV, getG] using hs
            have := typeB_len h
            omega
          repeat (first | refine WL1 rfl ?_ | refine WLe rfl rfl ?_ | refine W_region ?_ | refine WL2 inf rfl ?_ | refine WL_ld inf rfl rfl rfl rfl (Blk.cell (by assumption) rfl) ?_)
          refine W_ret1 rfl rfl rfl ⟨ret_bool ?_, hE⟩
          simp only [namedI, hb, hb2, hb3, hb4, bl_mk, isEmpty_bl]
          rfl
        · refine Wg rfl (W_region ?_)
          repeat (first | refine WL1 rfl ?_ | refine WLe rfl rfl ?_ | refine W_region ?_ | refine WL2 inf rfl ?_ | refine WL_ld inf rfl rfl rfl rfl (Blk.cell (by assumption) rfl) ?_)
          refine W_cond rfl rfl (fun hb5 => ?_) (fun hb5 => ?_)
          · refine Wg rfl (W_region ?_)
            repeat (first | refine WL1 rfl ?_ | refine WLe rfl rfl ?_ | refine W_region ?_ | refine WL2 inf rfl ?_ | refine WL_ld inf rfl rfl rfl rfl (Blk.cell (by assumption) rfl) ?_)
            refine WL_callq rfl rfl rfl rfl rfl enters_ref rfl (fun _ => ref_any x.desc _ ho3) ?_
            repeat (first | refine WL1 rfl ?_ | refine WLe rfl rfl ?_ | refine W_region ?_ | refine WL2 inf rfl ?_ | refine WL_ld inf rfl rfl rfl rfl (Blk.cell (by assumption) rfl) ?_)
            refine W_ret1 rfl rfl rfl ⟨ret_bool ?_, hE⟩
            simp only [namedI, hb, hb2, hb3, hb4, hb5]
            rfl
          · refine Wg rfl (W_region ?_)
            repeat (first | refine WL1 rfl ?_ | refine WLe rfl rfl ?_ | refine W_region ?_ | refine WL2 inf rfl ?_ | refine WL_ld inf rfl rfl rfl rfl (Blk.cell (by assumption) rfl) ?_)
            refine W_ret1 rfl rfl rfl ⟨ret_bool ?_, hE⟩
            simp only [namedI, hb, hb2, hb3, hb4, hb5]
            rfl
def checkI (x : Ins) (length locals : Int) : Int :=
  if isOp x.op = false then 3
  else if (shapeD x.op).a && !rngB x.a (-2147483648) 2147483647 || (shapeD x.op).b && !rngB x.b (-2147483648) 2147483647 then 5
  else if namedI x = false then 6
  else if (x.op == 5 || x.op == 6) && (decide (x.a < 0) || decide (x.a ≥ locals)) || rngB x.op 17 20 && (decide (x.a < 0) || decide (x.a ≥ length)) then 4
  else 0
theorem enters_icheck : Enters Tryz.prog 121 := enters_of Tryz.func121 (by kernel_rfl) rfl
theorem icheck_any (x : Ins) (length locals : Int) (w : World) (ho : Ins.ok x) : Calls Tryz.prog 121 #[.agg (Ins.cs x).toArray, .int .i64 length, .int .i64 locals] w fun e w' => e = .returned (.int .i64 (checkI x length locals)) ∧ Ext w w' := by
  refine calls_W (args := [.agg (Ins.cs x).toArray, .int .i64 length, .int .i64 locals]) Tryz.func121 rfl rfl rfl ?_
  refine Wg rfl (W_region ?_)
  refine WL_box (cs := Ins.cs x) rfl rfl rfl rfl rfl ?_
  rintro g w1 hg hB hE
  repeat (first | refine WL1 rfl ?_ | refine WLe rfl rfl ?_ | refine W_region ?_ | refine WL2 inf rfl ?_ | refine WL_ld inf rfl rfl rfl rfl (Blk.cell (by assumption) rfl) ?_)
  refine WL_call rfl rfl rfl rfl rfl enters_of_ rfl (of_any x.op _) ?_
  rintro e w2 ⟨rfl, hE2⟩
  refine ⟨_, rfl, ?_⟩
  replace hE := hE.then_ hE2
  have l1 := hB.lt
  replace hB := hB.ext hE2
  repeat (first | refine WL1 rfl ?_ | refine WLe rfl rfl ?_ | refine W_region ?_ | refine WL2 inf rfl ?_ | refine WL_ld inf rfl rfl rfl rfl (Blk.cell (by assumption) rfl) ?_)
  refine WL_alloc inf (cs := noRow.sh.cs) rfl rfl rfl rfl rfl ?_
  rintro g' w3 hg' hB' hE3
  have s2 := hE2.size
  refine WL_sta inf (cs' := (shapeD x.op).cs) rfl rfl rfl rfl (by simp [Sp.Sh.cs, Value.oneCell']) rfl hB' rfl ?_
  rintro w4 hB4 u4
  replace hB := u4.blk (hB.ext hE3) (by omega)
  replace hE := u4.ext (hE.then_ hE3) (by have := hE.size; omega)
  repeat (first | refine WL1 rfl ?_ | refine WLe rfl rfl ?_ | refine W_region ?_ | refine WL2 inf rfl ?_ | refine WL_ld inf rfl rfl rfl rfl (Blk.cell (by assumption) rfl) ?_)
  refine W_cond rfl rfl (fun hb => ?_) (fun hb => ?_)
  · refine Wg rfl (W_region ?_)
    repeat (first | refine WL1 rfl ?_ | refine WLe rfl rfl ?_ | refine W_region ?_ | refine WL2 inf rfl ?_ | refine WL_ld inf rfl rfl rfl rfl (Blk.cell (by assumption) rfl) ?_)
    refine W_ret1 rfl rfl rfl ⟨ret_int ?_, hE⟩
    unfold checkI
    rw [if_pos (by simpa using hb)]
  · have hop : isOp x.op = true := by simpa using hb
    refine Wg rfl (W_region ?_)
    repeat (first | refine WL1 rfl ?_ | refine WLe rfl rfl ?_ | refine W_region ?_ | refine WL2 inf rfl ?_ | refine WL_ld inf rfl rfl rfl rfl (Blk.cell (by assumption) rfl) ?_)
    refine WL_callq rfl rfl rfl rfl rfl enters_iwithin rfl (fun _ => iwithin_any x.a _ _ _) ?_
    repeat (first | refine WL1 rfl ?_ | refine WLe rfl rfl ?_ | refine W_region ?_ | refine WL2 inf rfl ?_ | refine WL_ld inf rfl rfl rfl rfl (Blk.cell (by assumption) rfl) ?_)
    refine WL_callq rfl rfl rfl rfl rfl enters_iwithin rfl (fun _ => iwithin_any x.b _ _ _) ?_
    repeat (first | refine WL1 rfl ?_ | refine WLe rfl rfl ?_ | refine W_region ?_ | refine WL2 inf rfl ?_ | refine WL_ld inf rfl rfl rfl rfl (Blk.cell (by assumption) rfl) ?_)
    refine W_cond rfl rfl (fun hb2 => ?_) (fun hb2 => ?_)
    · refine Wg rfl (W_region ?_)
      repeat (first | refine WL1 rfl ?_ | refine WLe rfl rfl ?_ | refine W_region ?_ | refine WL2 inf rfl ?_ | refine WL_ld inf rfl rfl rfl rfl (Blk.cell (by assumption) rfl) ?_)
      refine W_ret1 rfl rfl rfl ⟨ret_int ?_, hE⟩
      unfold checkI
      rw [if_neg (by simp [hop]), if_pos hb2]
    · refine Wg rfl (W_region ?_)
      refine WL_lda inf (cs := Ins.cs x) rfl rfl rfl rfl hB.cells ?_
      refine WL_call rfl rfl rfl rfl rfl enters_inamed rfl (inamed_any x _ ho) ?_
      rintro e w5 ⟨rfl, hE5⟩
      refine ⟨_, rfl, ?_⟩
      replace hE := hE.then_ hE5
      replace hB := hB.ext hE5
      repeat (first | refine WL1 rfl ?_ | refine WLe rfl rfl ?_ | refine W_region ?_ | refine WL2 inf rfl ?_ | refine WL_ld inf rfl rfl rfl rfl (Blk.cell (by assumption) rfl) ?_)
      refine W_cond rfl rfl (fun hb3 => ?_) (fun hb3 => ?_)
      · refine Wg rfl (W_region ?_)
        repeat (first | refine WL1 rfl ?_ | refine WLe rfl rfl ?_ | refine W_region ?_ | refine WL2 inf rfl ?_ | refine WL_ld inf rfl rfl rfl rfl (Blk.cell (by assumption) rfl) ?_)
        refine W_ret1 rfl rfl rfl ⟨ret_int ?_, hE⟩
        unfold checkI
        rw [if_neg (by simp [hop]), if_neg (by rw [hb2]; simp), if_pos (by simpa using hb3)]
      · refine Wg rfl (W_region ?_)
        repeat (first | refine WL1 rfl ?_ | refine WLe rfl rfl ?_ | refine W_region ?_ | refine WL2 inf rfl ?_ | refine WL_ld inf rfl rfl rfl rfl (Blk.cell (by assumption) rfl) ?_)
        refine WL_callq rfl rfl rfl rfl rfl enters_jumps rfl (fun _ => jumps_any x.op _) ?_
        repeat (first | refine WL1 rfl ?_ | refine WLe rfl rfl ?_ | refine W_region ?_ | refine WL2 inf rfl ?_ | refine WL_ld inf rfl rfl rfl rfl (Blk.cell (by assumption) rfl) ?_)
        refine W_cond rfl rfl (fun hb4 => ?_) (fun hb4 => ?_)
        · refine Wg rfl (W_region ?_)
          repeat (first | refine WL1 rfl ?_ | refine WLe rfl rfl ?_ | refine W_region ?_ | refine WL2 inf rfl ?_ | refine WL_ld inf rfl rfl rfl rfl (Blk.cell (by assumption) rfl) ?_)
          refine W_ret1 rfl rfl rfl ⟨ret_int ?_, hE⟩
          unfold checkI
          rw [if_neg (by simp [hop]), if_neg (by rw [hb2]; simp), if_neg (by simpa using hb3), if_pos hb4]
        · refine Wg rfl (W_region ?_)
          repeat (first | refine WL1 rfl ?_ | refine WLe rfl rfl ?_ | refine W_region ?_ | refine WL2 inf rfl ?_ | refine WL_ld inf rfl rfl rfl rfl (Blk.cell (by assumption) rfl) ?_)
          refine W_ret1 rfl rfl rfl ⟨ret_int ?_, hE⟩
          unfold checkI
          rw [if_neg (by simp [hop]), if_neg (by rw [hb2]; simp), if_neg (by simpa using hb3), if_neg (by rw [hb4]; simp)]
end Go.Proofs.YtljcmmmajjmpoaaGreatDoor
