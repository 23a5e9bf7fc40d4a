/- classfile.Check. -/
import Derived.Test.YtljcmmmajjmpoaaGreatDoorClass
namespace Go.Proofs.YtljcmmmajjmpoaaGreatDoor
open Go.RowKit Sp

/-- classfile.Check: why a class may not be. -/
def checkC (c : Cls) : Int :=
  if !nameB c.name || (!c.super.isEmpty && !nameB c.super) || c.impl.any (fun s => !nameB s) then 6
  else if decide (c.impl.length > 30) || decide (c.fields.length > 20) || decide (c.methods.length > 20) then 5
  else if c.fields.any (fun f => !nameB f.name || !typeB f.desc) then 6
  else if firstE (c.methods.map methodE) ≠ 0 then firstE (c.methods.map methodE)
  else if (poolD c).length > 500 then 5 else 0
theorem enters_check1 : Enters Tryz.prog 83 := enters_of Tryz.func83 (by kernel_rfl) rfl
theorem check1_any (l : L) (w : World) (hs : Len l) : Calls Tryz.prog 83 #[.string (mkS l)] w fun e w' => e = .returned (.bool (!nameB l)) ∧ w = w' := by
  refine calls_W (args := [.string (mkS l)]) Tryz.func83 rfl rfl rfl ?_
  refine Wg rfl (W_region ?_)
  repeat (first | refine WL1 rfl ?_ | refine WLe rfl rfl ?_ | refine W_region ?_ | refine WL2 inf rfl ?_ | refine WL_ld inf rfl rfl rfl rfl (Blk.cell (by assumption) rfl) ?_)
  refine WL_callq rfl rfl rfl rfl rfl enters_name rfl (fun _ => name_any l _ hs) ?_
  repeat (first | refine WL1 rfl ?_ | refine WLe rfl rfl ?_ | refine W_region ?_ | refine WL2 inf rfl ?_ | refine WL_ld inf rfl rfl rfl rfl (Blk.cell (by assumption) rfl) ?_)
  exact W_ret1 rfl rfl rfl ⟨rfl, rfl⟩
theorem rngB_le {n a b : Int} (h : rngB n a b = true) : a ≤ n ∧ n ≤ b := by simpa [rngB] using h
theorem methodE_small {m : Mth} (h : methodE m = 0) : m.code.length ≤ 200 ∧ m.hand.length ≤ 20 := by
  unfold methodE at h
  split at h
  · cases h
  · split at h
    · cases h
    · rename_i h2
      have h3 : limitedM m = true := by simpa using h2
      unfold limitedM at h3
      simp only [Bool.and_eq_true, decide_eq_true_eq] at h3
      exact ⟨h3.1.2, h3.2⟩
theorem firstE_all {α : Type} (f : α → Int) : ∀ (xs : List α), firstE (xs.map f) = 0 → ∀ x ∈ xs, f x = 0
  | [], _, _, h => by cases h
  | y :: ys, h, x, hx => by
    simp only [List.map_cons, firstE] at h
    split at h
    · rename_i h0
      rcases List.mem_cons.1 hx with rfl | hx
      · simpa using h0
      · exact firstE_all f ys h x hx
    · rename_i h0
      simp only [beq_iff_eq] at h0
      exact absurd h h0
theorem enters_check : Enters Tryz.prog 50 := enters_of Tryz.func50 (by kernel_rfl) rfl
set_option maxRecDepth 100000 in
set_option maxHeartbeats 4000000 in
theorem check_any {B : Nat → Prop} (c : Cls) (w : World) {iv fv mv : Value} (hB : ∀ k, B k → k < w.heap.size) (hc : ClsR B w c (Cls.cs c iv fv mv)) :
    Calls Tryz.prog 50 #[.agg (Cls.cs c iv fv mv).toArray] w fun e w' => e = .returned (.int .i64 (checkC c)) ∧ Ext w w' := by
  have hc0 := hc
  obtain ⟨i', f', m', heq, hl1, hl2, hsi, hsf, hsm⟩ := hc
  obtain ⟨rfl, rfl, rfl⟩ : iv = i' ∧ fv = f' ∧ mv = m' := by simp only [Cls.cs, List.cons.injEq, and_true, true_and] at heq; exact heq
  have hsi0 := hsi
  obtain ⟨Ai, ci, rfl, hi1, hi2, hri⟩ := hsi
  obtain ⟨Af, cf, rfl, hf1, hf2, hrf⟩ := hsf
  obtain ⟨Am, cm, rfl, hm1, hm2, hrm⟩ := hsm
  refine calls_W (args := [.agg (Cls.cs c (.slice Ai c.impl.length ci) (.slice Af c.fields.length cf) (.slice Am c.methods.length cm)).toArray]) Tryz.func50 rfl rfl rfl ?_
  refine Wg rfl (W_region ?_)
  refine WL_box (cs := Cls.cs c (.slice Ai c.impl.length ci) (.slice Af c.fields.length cf) (.slice Am c.methods.length cm)) rfl rfl rfl rfl rfl ?_
  rintro g w1 hg hB1 hE
  repeat (first | refine WL1 rfl ?_ | refine WLe rfl rfl ?_ | refine W_region ?_ | refine WL2 inf rfl ?_ | refine WL_ld inf rfl rfl rfl rfl (Blk.cell (by assumption) rfl) ?_)
  refine W_scope 0 (fun e : Int => [(2, [], .int .i64 e)]) (fun e W => Ext w W ∧ e = checkC c) (fun _ => 0) rfl ?_ ?_
  · rintro e W ⟨hE, rfl⟩
    refine Wg rfl (W_region ?_)
    repeat (first | refine WL1 rfl ?_ | refine WLe rfl rfl ?_ | refine W_region ?_ | refine WL2 inf rfl ?_ | refine WL_ld inf rfl rfl rfl rfl (Blk.cell (by assumption) rfl) ?_)
    exact W_ret1 rfl rfl rfl ⟨rfl, hE⟩
  intro _
  refine Wg rfl (W_region ?_)
  repeat (first | refine WL1 rfl ?_ | refine WLe rfl rfl ?_ | refine W_region ?_ | refine WL2 inf rfl ?_ | refine WL_ld inf rfl rfl rfl rfl (Blk.cell (by assumption) rfl) ?_)
  refine WL_callq rfl rfl rfl rfl rfl enters_name rfl (fun _ => name_any c.name _ hl1) ?_
  repeat (first | refine WL1 rfl ?_ | refine WLe rfl rfl ?_ | refine W_region ?_ | refine WL2 inf rfl ?_ | refine WL_ld inf rfl rfl rfl rfl (Blk.cell (by assumption) rfl) ?_)
  refine WL_callq rfl rfl rfl rfl rfl enters_name rfl (fun _ => name_any c.super _ hl2) ?_
  repeat (first | refine WL1 rfl ?_ | refine WLe rfl rfl ?_ | refine W_region ?_ | refine WL2 inf rfl ?_ | refine WL_ld inf rfl rfl rfl rfl (Blk.cell (by assumption) rfl) ?_)
  refine WL_callq rfl rfl rfl rfl rfl enters_cfL rfl (fun _ => cfqL_any (cap := []) (fun s => !nameB s) (hsi0.ext StrR.mono hE) enters_check1 (fun x _ hx => check1_any x _ hx)) ?_
  repeat (first | refine WL1 rfl ?_ | refine WLe rfl rfl ?_ | refine W_region ?_ | refine WL2 inf rfl ?_ | refine WL_ld inf rfl rfl rfl rfl (Blk.cell (by assumption) rfl) ?_)
  refine W_cond rfl rfl (fun hb => ?_) (fun hb => ?_)
  · refine Wm rfl 6 ⟨hE, ?_⟩ rfl ⟨rfl, trivial⟩
    rw [bl_mk, isEmpty_bl] at hb
    unfold checkC
    rw [if_pos hb]
  rw [bl_mk, isEmpty_bl] at hb
  have hcc : checkC c = checkC c := rfl
  conv at hcc => rhs; unfold checkC
  rw [if_neg (by rw [hb]; simp)] at hcc
  clear hb
  refine Wg rfl (W_region ?_)
  repeat (first | refine WL1 rfl ?_ | refine WLe rfl rfl ?_ | refine W_region ?_ | refine WL2 inf rfl ?_ | refine WL_ld inf rfl rfl rfl rfl (Blk.cell (by assumption) rfl) ?_)
  refine W_cond rfl rfl (fun hb => ?_) (fun hb => ?_)
  · refine Wm rfl 5 ⟨hE, ?_⟩ rfl ⟨rfl, trivial⟩
    rw [hcc, if_pos]
    simp only [Bool.or_eq_true, decide_eq_true_eq] at hb ⊢
    omega
  have hsmall : c.impl.length ≤ 30 ∧ c.fields.length ≤ 20 ∧ c.methods.length ≤ 20 := by
    simp only [Bool.or_eq_false_iff, decide_eq_false_iff_not] at hb
    omega
  rw [if_neg (by simp only [Bool.or_eq_true, decide_eq_true_eq]; omega)] at hcc
  clear hb
  refine Wg rfl (W_region ?_)
  repeat (first | refine WL1 rfl ?_ | refine WLe rfl rfl ?_ | refine W_region ?_ | refine WL2 inf rfl ?_ | refine WL_ld inf rfl rfl rfl rfl (Blk.cell (by assumption) rfl) ?_)
  refine W_loop (fun k : Nat => [(1, [], .pointer (some ⟨g, 0, none⟩)), (2, [], .int .i64 6), (44, [], .slice Af c.fields.length cf), (45, [], .int .i64 c.fields.length), (46, [], .int .i64 k)])
    (fun k W => k ≤ c.fields.length ∧ Ext w W ∧ Blk W g 44 (Cls.cs c (.slice Ai c.impl.length ci) (.slice Af c.fields.length cf) (.slice Am c.methods.length cm)) ∧ ∀ i y, i < k → c.fields[i]? = some y → (!nameB y.name || !typeB y.desc) = false)
    (fun k => c.fields.length - k) 0 (fun _ => rfl) ⟨rfl, rfl, rfl, rfl, rfl, trivial⟩ ⟨Nat.zero_le _, hE, hB1, fun i y h => absurd h (Nat.not_lt_zero i)⟩ ?_
  clear hE hB1
  rintro k W ⟨hk, hE, hB1, hno⟩
  refine Wg rfl (W_region ?_)
  repeat (first | refine WL1 rfl ?_ | refine WLe rfl rfl ?_ | refine W_region ?_ | refine WL2 inf rfl ?_ | refine WL_ld inf rfl rfl rfl rfl (Blk.cell (by assumption) rfl) ?_)
  refine W_cond rfl rfl (fun hb => ?_) (fun hb => ?_)
  · have hlt : k < c.fields.length := by simpa using hb
    have hx : c.fields[k]? = some c.fields[k] := List.getElem?_eq_getElem hlt
    generalize c.fields[k] = x at hx
    obtain ⟨a, cs, rfl, hz, hR, hcs⟩ := hrf.at_ hx
    obtain ⟨rfl, hx1, hx2⟩ := hR
    refine Wg rfl (W_region ?_)
    refine WL_ix inf rfl rfl rfl rfl rfl (fun _ => ⟨by omega, by omega⟩) ?_
    refine WL_lda inf (cs := Fld.cs x) rfl rfl rfl rfl (hcs.cells.ext hE) ?_
    refine WL_alloc inf rfl rfl rfl rfl rfl ?_
    rintro g5 w5 hg5 hB5 hE5
    refine WL_sta inf (cs' := Fld.cs x) rfl rfl rfl rfl (Fld.one x) rfl hB5 rfl ?_
    rintro w6 hB6 u6
    have hE6 : Ext W w6 := u6.ext hE5 (by omega)
    repeat (first | refine WL1 rfl ?_ | refine WLe rfl rfl ?_ | refine W_region ?_ | refine WL2 inf rfl ?_ | refine WL_ld inf rfl rfl rfl rfl (Blk.cell (by assumption) rfl) ?_)
    refine WL_callq rfl rfl rfl rfl rfl enters_name rfl (fun _ => name_any x.name _ hx1) ?_
    repeat (first | refine WL1 rfl ?_ | refine WLe rfl rfl ?_ | refine W_region ?_ | refine WL2 inf rfl ?_ | refine WL_ld inf rfl rfl rfl rfl (Blk.cell (by assumption) rfl) ?_)
    refine WL_callq rfl rfl rfl rfl rfl enters_type rfl (fun _ => type_any x.desc _ hx2) ?_
    repeat (first | refine WL1 rfl ?_ | refine WLe rfl rfl ?_ | refine W_region ?_ | refine WL2 inf rfl ?_ | refine WL_ld inf rfl rfl rfl rfl (Blk.cell (by assumption) rfl) ?_)
    refine W_cond rfl rfl (fun hc => ?_) (fun hc => ?_)
    · refine Wm rfl 6 ⟨hE.then_ hE6, ?_⟩ rfl ⟨rfl, trivial⟩
      rw [hcc, if_pos]
      exact List.any_eq_true.2 ⟨x, List.mem_of_getElem? hx, hc⟩
    · refine Wg rfl (W_region ?_)
      refine WL_add rfl rfl rfl rfl rfl rfl rfl (fun _ => by omega) ?_
      repeat (first | refine WL1 rfl ?_ | refine WLe rfl rfl ?_ | refine W_region ?_ | refine WL2 inf rfl ?_ | refine WL_ld inf rfl rfl rfl rfl (Blk.cell (by assumption) rfl) ?_)
      refine WLr rfl (k + 1) (by omega) ⟨hlt, hE.then_ hE6, hB1.ext hE6, fun i y hi hy => ?_⟩ rfl ⟨rfl, rfl, rfl, rfl, rfl, trivial⟩
      rcases Nat.lt_or_eq_of_le (Nat.le_of_lt_succ hi) with h1 | rfl
      · exact hno i y h1 hy
      · rw [hx] at hy; cases hy; exact hc
  have hk' : k = c.fields.length := by simp at hb; omega
  subst hk'
  rw [if_neg (by
    intro h
    obtain ⟨y, hy, h2⟩ := List.any_eq_true.1 h
    obtain ⟨i, hi, rfl⟩ := List.getElem_of_mem hy
    rw [hno i _ hi (List.getElem?_eq_getElem hi)] at h2; cases h2)] at hcc
  refine Wg rfl (W_region ?_)
  repeat (first | refine WL1 rfl ?_ | refine WLe rfl rfl ?_ | refine W_region ?_ | refine WL2 inf rfl ?_ | refine WL_ld inf rfl rfl rfl rfl (Blk.cell (by assumption) rfl) ?_)
  refine W_loop (fun x : Nat × Int => [(1, [], .pointer (some ⟨g, 0, none⟩)), (62, [], .slice Am c.methods.length cm), (63, [], .int .i64 c.methods.length), (64, [], .int .i64 x.1), (2, [], .int .i64 x.2)])
    (fun x W => x.1 ≤ c.methods.length ∧ Ext w W ∧ Blk W g 44 (Cls.cs c (.slice Ai c.impl.length ci) (.slice Af c.fields.length cf) (.slice Am c.methods.length cm)) ∧ ∀ i y, i < x.1 → c.methods[i]? = some y → methodE y = 0)
    (fun x => c.methods.length - x.1) (0, 6) (fun _ => rfl) ⟨rfl, rfl, rfl, rfl, rfl, trivial⟩ ⟨Nat.zero_le _, hE, hB1, fun i y h => absurd h (Nat.not_lt_zero i)⟩ ?_
  clear hE hB1 hb hno
  rintro ⟨k, e0⟩ W ⟨hk, hE, hB1, hno⟩
  dsimp only at hk hno ⊢
  refine Wg rfl (W_region ?_)
  repeat (first | refine WL1 rfl ?_ | refine WLe rfl rfl ?_ | refine W_region ?_ | refine WL2 inf rfl ?_ | refine WL_ld inf rfl rfl rfl rfl (Blk.cell (by assumption) rfl) ?_)
  refine W_cond rfl rfl (fun hb => ?_) (fun hb => ?_)
  · have hlt : k < c.methods.length := by simpa using hb
    have hx : c.methods[k]? = some c.methods[k] := List.getElem?_eq_getElem hlt
    generalize c.methods[k] = m at hx
    obtain ⟨a, cs, rfl, hz, hR, hcs⟩ := hrm.at_ hx
    have hR0 := hR
    obtain ⟨cv, hv, rfl, hx1, hx2, hsc, hsh⟩ := hR
    refine Wg rfl (W_region ?_)
    refine WL_ix inf rfl rfl rfl rfl rfl (fun _ => ⟨by omega, by omega⟩) ?_
    refine WL_lda inf (cs := Mth.cs m cv hv) rfl rfl rfl rfl (hcs.cells.ext hE) ?_
    refine WL_alloc inf rfl rfl rfl rfl rfl ?_
    rintro g5 w5 hg5 hB5 hE5
    refine WL_sta inf (cs' := Mth.cs m cv hv) rfl rfl rfl rfl (Mth.one m hsc.one hsh.one) rfl hB5 rfl ?_
    rintro w6 hB6 u6
    have hE6 : Ext W w6 := u6.ext hE5 (by omega)
    repeat (first | refine WL1 rfl ?_ | refine WLe rfl rfl ?_ | refine W_region ?_ | refine WL2 inf rfl ?_ | refine WL_ld inf rfl rfl rfl rfl (Blk.cell (by assumption) rfl) ?_)
    refine WL_lda inf (cs := Mth.cs m cv hv) rfl rfl rfl rfl hB6.cells ?_
    refine WL_call rfl rfl rfl rfl rfl enters_cmethod rfl (cmethod_any m _ _ _ (MthR.mono _ _ _ _ _ _ hR0 (hE.then_ hE6).keeps fun _ h => h)) ?_
    rintro e w7 ⟨rfl, hE7⟩
    refine ⟨_, rfl, ?_⟩
    repeat (first | refine WL1 rfl ?_ | refine WLe rfl rfl ?_ | refine W_region ?_ | refine WL2 inf rfl ?_ | refine WL_ld inf rfl rfl rfl rfl (Blk.cell (by assumption) rfl) ?_)
    refine W_cond rfl rfl (fun hc => ?_) (fun hc => ?_)
    · refine Wm rfl (methodE m) ⟨(hE.then_ hE6).then_ hE7, ?_⟩ rfl ⟨rfl, trivial⟩
      have h1 := firstE_take methodE c.methods k m hx hno (by simpa using hc) []
      rw [List.append_nil] at h1
      rw [hcc, h1, if_pos (by simpa using hc)]
    · refine Wg rfl (W_region ?_)
      refine WL_add rfl rfl rfl rfl rfl rfl rfl (fun _ => by omega) ?_
      repeat (first | refine WL1 rfl ?_ | refine WLe rfl rfl ?_ | refine W_region ?_ | refine WL2 inf rfl ?_ | refine WL_ld inf rfl rfl rfl rfl (Blk.cell (by assumption) rfl) ?_)
      refine WLr rfl (k + 1, methodE m) (by simp only; omega) ⟨hlt, (hE.then_ hE6).then_ hE7, (hB1.ext hE6).ext hE7, fun i y hi hy => ?_⟩ rfl ⟨rfl, rfl, rfl, rfl, rfl, trivial⟩
      rcases Nat.lt_or_eq_of_le (Nat.le_of_lt_succ hi) with h1 | rfl
      · exact hno i y h1 hy
      · rw [hx] at hy; cases hy; simpa using hc
  have hk' : k = c.methods.length := by simp at hb; omega
  subst hk'
  have h0 := firstE_none methodE c.methods hno []
  rw [List.append_nil] at h0
  rw [h0, if_neg (by simp [firstE])] at hcc
  have hS : Small c := ⟨hsmall.1, hsmall.2.1, hsmall.2.2, fun m hm => methodE_small (firstE_all methodE c.methods h0 m hm)⟩
  refine Wg rfl (W_region ?_)
  repeat (first | refine WL1 rfl ?_ | refine WLe rfl rfl ?_ | refine W_region ?_ | refine WL2 inf rfl ?_ | refine WL_ld inf rfl rfl rfl rfl (Blk.cell (by assumption) rfl) ?_)
  refine WL_lda inf (cs := Cls.cs c (.slice Ai c.impl.length ci) (.slice Af c.fields.length cf) (.slice Am c.methods.length cm)) rfl rfl rfl rfl hB1.cells ?_
  refine WL_call rfl rfl rfl rfl rfl enters_Pool rfl (Pool_any c W (fun k hk => Nat.lt_of_lt_of_le (hB k hk) hE.size) (ClsR.mono _ _ _ _ _ _ hc0 hE.keeps fun _ h => h) hS) ?_
  rintro e w7 ⟨v, rfl, hE7, hown⟩
  refine ⟨_, rfl, ?_⟩
  obtain ⟨A, d, rfl⟩ := hown.val
  rw [List.length_map]
  repeat (first | refine WL1 rfl ?_ | refine WLe rfl rfl ?_ | refine W_region ?_ | refine WL2 inf rfl ?_ | refine WL_ld inf rfl rfl rfl rfl (Blk.cell (by assumption) rfl) ?_)
  refine W_cond rfl rfl (fun hc => ?_) (fun hc => ?_)
  · refine Wg rfl (W_region ?_)
    repeat (first | refine WL1 rfl ?_ | refine WLe rfl rfl ?_ | refine W_region ?_ | refine WL2 inf rfl ?_ | refine WL_ld inf rfl rfl rfl rfl (Blk.cell (by assumption) rfl) ?_)
    refine W_ret1 rfl rfl rfl ⟨ret_int ?_, hE.then_ hE7⟩
    rw [hcc, if_pos (by have := of_decide_eq_true hc; omega)]
  · refine Wg rfl (W_region ?_)
    repeat (first | refine WL1 rfl ?_ | refine WLe rfl rfl ?_ | refine W_region ?_ | refine WL2 inf rfl ?_ | refine WL_ld inf rfl rfl rfl rfl (Blk.cell (by assumption) rfl) ?_)
    refine W_ret1 rfl rfl rfl ⟨ret_int ?_, hE.then_ hE7⟩
    rw [hcc, if_neg (by have := of_decide_eq_false hc; omega)]
end Go.Proofs.YtljcmmmajjmpoaaGreatDoor
