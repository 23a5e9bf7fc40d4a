/- IndexFunc, ContainsFunc, Index, Contains at the program's element types. -/
import Derived.Test.YtljcmmmajjmpoaaGreatDoorMore
import Derived.Test.YtljcmmmajjmpoaaGreatDoorDescb
namespace Go.Proofs.YtljcmmmajjmpoaaGreatDoor
open Go.RowKit Sp

theorem mSI : isMapSI Tryz.prog 69 := ⟨_, _, Tryz.underlying69, Tryz.underlying9, Tryz.zeroValue3⟩
def ixI {α : Type} (p : α → Bool) (xs : List α) : Int := match xs.findIdx? p with
  | some i => i
  | none => -1
theorem ixI_some {α : Type} {p : α → Bool} {xs : List α} {i : Nat} {x : α} (hx : xs[i]? = some x) (hp : p x = true) (hno : ∀ j y, j < i → xs[j]? = some y → p y = false) : ixI p xs = i := by
  unfold ixI
  obtain ⟨hi, he⟩ := List.getElem?_eq_some_iff.1 hx
  have : xs.findIdx? p = some i := by
    rw [List.findIdx?_eq_some_iff_getElem]
    refine ⟨hi, by rw [he]; exact hp, fun j hj => ?_⟩
    have := hno j xs[j] hj (List.getElem?_eq_getElem (by omega))
    simp [this]
  rw [this]
theorem ixI_none {α : Type} {p : α → Bool} {xs : List α} (hno : ∀ j y, j < xs.length → xs[j]? = some y → p y = false) : ixI p xs = -1 := by
  unfold ixI
  have : xs.findIdx? p = none := by
    rw [List.findIdx?_eq_none_iff]
    intro x hx
    obtain ⟨j, hj, rfl⟩ := List.getElem_of_mem hx
    exact hno j _ hj (List.getElem?_eq_getElem hj)
  rw [this]
theorem ixI_any {α : Type} (p : α → Bool) (xs : List α) : decide (ixI p xs ≥ 0) = xs.any p := by
  unfold ixI
  cases h : xs.findIdx? p with
  | none =>
    rw [List.findIdx?_eq_none_iff] at h
    have : xs.any p = false := by simp only [List.any_eq_false]; exact fun x hx => by simp [h x hx]
    rw [this]; rfl
  | some i =>
    rw [List.findIdx?_eq_some_iff_getElem] at h
    obtain ⟨hi, hp, _⟩ := h
    have : xs.any p = true := List.any_eq_true.2 ⟨xs[i], List.getElem_mem hi, hp⟩
    rw [this]; simp


theorem enters_ixfCls : Enters Tryz.prog 124 := enters_of Tryz.func124 (by kernel_rfl) rfl
/-- slices.IndexFunc. -/
theorem ixfCls_any {B : Nat → Prop} {w : World} {v : Value} {xs : List Cls} {f : Nat} {cap : List Value} (p : Cls → Bool) (hsl : Sl ClsR 7 B w v xs) (hen : Enters Tryz.prog f)
    (hp : ∀ W x cs, Ext w W → x ∈ xs → cs.length = 7 → ClsR B w x cs → Calls Tryz.prog f (Value.agg cs.toArray :: cap).toArray W fun e w1 => e = .returned (.bool (p x)) ∧ Ext W w1) :
    Calls Tryz.prog 124 #[v, .func (.func f) #[] cap.toArray] w fun e w1 => e = .returned (.int .i64 (ixI p xs)) ∧ Ext w w1 := by
  have hle := hsl.len
  obtain ⟨A, c, rfl, hlc, _, hrow⟩ := hsl
  refine calls_W (args := [.slice A xs.length c, .func (.func f) #[] cap.toArray]) Tryz.func124 rfl rfl rfl ?_
  refine Wg rfl (W_region ?_)
  repeat (first | refine WL1 rfl ?_ | refine WLe rfl rfl ?_ | refine W_region ?_)
  refine WL2 inf rfl ?_
  repeat (first | refine WL1 rfl ?_ | refine WLe rfl rfl ?_ | refine W_region ?_)
  refine W_loop (fun k : Nat => [(0, [], .slice A xs.length c), (1, [], .func (.func f) #[] cap.toArray), (7, [], .int .i64 xs.length), (8, [], .int .i64 k)]) (fun k W => Ext w W ∧ k ≤ xs.length ∧ ∀ j y, j < k → xs[j]? = some y → p y = false) (fun k => xs.length - k) 0 (fun _ => rfl) ⟨rfl, rfl, rfl, rfl, trivial⟩ ⟨Ext.rfl' w, Nat.zero_le _, fun j y h => absurd h (Nat.not_lt_zero j)⟩ ?_
  rintro k W ⟨he, hk, hno⟩
  refine Wg rfl (W_region ?_)
  repeat (first | refine WL1 rfl ?_ | refine WLe rfl rfl ?_ | refine W_region ?_)
  refine W_cond rfl rfl (fun hb => ?_) (fun hb => ?_)
  · have hlt : k < xs.length := by simpa using hb
    have hx : xs[k]? = some xs[k] := List.getElem?_eq_getElem hlt
    generalize xs[k] = x at hx
    obtain ⟨a, cs, rfl, hz, hR, hcs⟩ := hrow.at_ hx
    refine Wg rfl (W_region ?_)
    repeat (first | refine WL1 rfl ?_ | refine WLe rfl rfl ?_ | refine W_region ?_)
    refine WL_ix inf rfl rfl rfl rfl rfl (fun _ => ⟨by omega, by omega⟩) ?_
    refine WL_lda inf rfl rfl (by rw [hz]; rfl) rfl (hcs.cells.ext he) ?_
    refine WL_callv rfl rfl rfl rfl rfl hen rfl (hp W x cs he (List.mem_of_getElem? hx) hz hR) ?_
    rintro e W1 ⟨rfl, he1⟩
    refine ⟨_, rfl, ?_⟩
    repeat (first | refine WL1 rfl ?_ | refine WLe rfl rfl ?_ | refine W_region ?_)
    refine W_cond rfl rfl (fun hc => ?_) (fun hc => ?_)
    · refine Wg rfl (W_region ?_)
      repeat (first | refine WL1 rfl ?_ | refine WLe rfl rfl ?_ | refine W_region ?_)
      exact W_ret1 rfl rfl rfl ⟨ret_int (ixI_some hx hc hno).symm, he.then_ he1⟩
    · refine Wg rfl (W_region ?_)
      refine WL_add rfl rfl rfl rfl rfl rfl rfl (fun _ => by omega) ?_
      repeat (first | refine WL1 rfl ?_ | refine WLe rfl rfl ?_ | refine W_region ?_)
      refine WLr rfl (k + 1) (by omega) ⟨he.then_ he1, hlt, fun j y hj hy => ?_⟩ rfl ⟨rfl, rfl, rfl, rfl, trivial⟩
      rcases Nat.lt_or_eq_of_le (Nat.le_of_lt_succ hj) with h1 | rfl
      · exact hno j y h1 hy
      · rw [hx] at hy; cases hy; exact hc
  · have hk' : k = xs.length := by simp at hb; omega
    refine Wg rfl (W_region ?_)
    repeat (first | refine WL1 rfl ?_ | refine WLe rfl rfl ?_ | refine W_region ?_)
    exact W_ret1 rfl rfl rfl ⟨ret_int (ixI_none fun j y hj hy => hno j y (by omega) hy).symm, he⟩


theorem enters_cfCls : Enters Tryz.prog 87 := enters_of Tryz.func87 (by kernel_rfl) rfl
/-- slices.ContainsFunc. -/
theorem cfCls_any {B : Nat → Prop} {w : World} {v : Value} {xs : List Cls} {f : Nat} {cap : List Value} (p : Cls → Bool) (hsl : Sl ClsR 7 B w v xs) (hen : Enters Tryz.prog f)
    (hp : ∀ W x cs, Ext w W → x ∈ xs → cs.length = 7 → ClsR B w x cs → Calls Tryz.prog f (Value.agg cs.toArray :: cap).toArray W fun e w1 => e = .returned (.bool (p x)) ∧ Ext W w1) :
    Calls Tryz.prog 87 #[v, .func (.func f) #[] cap.toArray] w fun e w1 => e = .returned (.bool (xs.any p)) ∧ Ext w w1 := by
  refine calls_W (args := [v, .func (.func f) #[] cap.toArray]) Tryz.func87 rfl rfl rfl ?_
  refine Wg rfl (W_region ?_)
  repeat (first | refine WL1 rfl ?_ | refine WLe rfl rfl ?_ | refine W_region ?_)
  refine WL_call rfl rfl rfl rfl rfl enters_ixfCls rfl (ixfCls_any p hsl hen hp) ?_
  rintro e W1 ⟨rfl, he1⟩
  refine ⟨_, rfl, ?_⟩
  repeat (first | refine WL1 rfl ?_ | refine WLe rfl rfl ?_ | refine W_region ?_)
  exact W_ret1 rfl rfl rfl ⟨ret_bool (ixI_any p xs), he1⟩


theorem enters_ixfMth : Enters Tryz.prog 138 := enters_of Tryz.func138 (by kernel_rfl) rfl
/-- slices.IndexFunc. -/
theorem ixfMth_any {B : Nat → Prop} {w : World} {v : Value} {xs : List Mth} {f : Nat} {cap : List Value} (p : Mth → Bool) (hsl : Sl MthR 8 B w v xs) (hen : Enters Tryz.prog f)
    (hp : ∀ W x cs, Ext w W → x ∈ xs → cs.length = 8 → MthR B w x cs → Calls Tryz.prog f (Value.agg cs.toArray :: cap).toArray W fun e w1 => e = .returned (.bool (p x)) ∧ Ext W w1) :
    Calls Tryz.prog 138 #[v, .func (.func f) #[] cap.toArray] w fun e w1 => e = .returned (.int .i64 (ixI p xs)) ∧ Ext w w1 := by
  have hle := hsl.len
  obtain ⟨A, c, rfl, hlc, _, hrow⟩ := hsl
  refine calls_W (args := [.slice A xs.length c, .func (.func f) #[] cap.toArray]) Tryz.func138 rfl rfl rfl ?_
  refine Wg rfl (W_region ?_)
  repeat (first | refine WL1 rfl ?_ | refine WLe rfl rfl ?_ | refine W_region ?_)
  refine WL2 inf rfl ?_
  repeat (first | refine WL1 rfl ?_ | refine WLe rfl rfl ?_ | refine W_region ?_)
  refine W_loop (fun k : Nat => [(0, [], .slice A xs.length c), (1, [], .func (.func f) #[] cap.toArray), (7, [], .int .i64 xs.length), (8, [], .int .i64 k)]) (fun k W => Ext w W ∧ k ≤ xs.length ∧ ∀ j y, j < k → xs[j]? = some y → p y = false) (fun k => xs.length - k) 0 (fun _ => rfl) ⟨rfl, rfl, rfl, rfl, trivial⟩ ⟨Ext.rfl' w, Nat.zero_le _, fun j y h => absurd h (Nat.not_lt_zero j)⟩ ?_
  rintro k W ⟨he, hk, hno⟩
  refine Wg rfl (W_region ?_)
  repeat (first | refine WL1 rfl ?_ | refine WLe rfl rfl ?_ | refine W_region ?_)
  refine W_cond rfl rfl (fun hb => ?_) (fun hb => ?_)
  · have hlt : k < xs.length := by simpa using hb
    have hx : xs[k]? = some xs[k] := List.getElem?_eq_getElem hlt
    generalize xs[k] = x at hx
    obtain ⟨a, cs, rfl, hz, hR, hcs⟩ := hrow.at_ hx
    refine Wg rfl (W_region ?_)
    repeat (first | refine WL1 rfl ?_ | refine WLe rfl rfl ?_ | refine W_region ?_)
    refine WL_ix inf rfl rfl rfl rfl rfl (fun _ => ⟨by omega, by omega⟩) ?_
    refine WL_lda inf rfl rfl (by rw [hz]; rfl) rfl (hcs.cells.ext he) ?_
    refine WL_callv rfl rfl rfl rfl rfl hen rfl (hp W x cs he (List.mem_of_getElem? hx) hz hR) ?_
    rintro e W1 ⟨rfl, he1⟩
    refine ⟨_, rfl, ?_⟩
    repeat (first | refine WL1 rfl ?_ | refine WLe rfl rfl ?_ | refine W_region ?_)
    refine W_cond rfl rfl (fun hc => ?_) (fun hc => ?_)
    · refine Wg rfl (W_region ?_)
      repeat (first | refine WL1 rfl ?_ | refine WLe rfl rfl ?_ | refine W_region ?_)
      exact W_ret1 rfl rfl rfl ⟨ret_int (ixI_some hx hc hno).symm, he.then_ he1⟩
    · refine Wg rfl (W_region ?_)
      refine WL_add rfl rfl rfl rfl rfl rfl rfl (fun _ => by omega) ?_
      repeat (first | refine WL1 rfl ?_ | refine WLe rfl rfl ?_ | refine W_region ?_)
      refine WLr rfl (k + 1) (by omega) ⟨he.then_ he1, hlt, fun j y hj hy => ?_⟩ rfl ⟨rfl, rfl, rfl, rfl, trivial⟩
      rcases Nat.lt_or_eq_of_le (Nat.le_of_lt_succ hj) with h1 | rfl
      · exact hno j y h1 hy
      · rw [hx] at hy; cases hy; exact hc
  · have hk' : k = xs.length := by simp at hb; omega
    refine Wg rfl (W_region ?_)
    repeat (first | refine WL1 rfl ?_ | refine WLe rfl rfl ?_ | refine W_region ?_)
    exact W_ret1 rfl rfl rfl ⟨ret_int (ixI_none fun j y hj hy => hno j y (by omega) hy).symm, he⟩


theorem enters_cfMth : Enters Tryz.prog 98 := enters_of Tryz.func98 (by kernel_rfl) rfl
/-- slices.ContainsFunc. -/
theorem cfMth_any {B : Nat → Prop} {w : World} {v : Value} {xs : List Mth} {f : Nat} {cap : List Value} (p : Mth → Bool) (hsl : Sl MthR 8 B w v xs) (hen : Enters Tryz.prog f)
    (hp : ∀ W x cs, Ext w W → x ∈ xs → cs.length = 8 → MthR B w x cs → Calls Tryz.prog f (Value.agg cs.toArray :: cap).toArray W fun e w1 => e = .returned (.bool (p x)) ∧ Ext W w1) :
    Calls Tryz.prog 98 #[v, .func (.func f) #[] cap.toArray] w fun e w1 => e = .returned (.bool (xs.any p)) ∧ Ext w w1 := by
  refine calls_W (args := [v, .func (.func f) #[] cap.toArray]) Tryz.func98 rfl rfl rfl ?_
  refine Wg rfl (W_region ?_)
  repeat (first | refine WL1 rfl ?_ | refine WLe rfl rfl ?_ | refine W_region ?_)
  refine WL_call rfl rfl rfl rfl rfl enters_ixfMth rfl (ixfMth_any p hsl hen hp) ?_
  rintro e W1 ⟨rfl, he1⟩
  refine ⟨_, rfl, ?_⟩
  repeat (first | refine WL1 rfl ?_ | refine WLe rfl rfl ?_ | refine W_region ?_)
  exact W_ret1 rfl rfl rfl ⟨ret_bool (ixI_any p xs), he1⟩


theorem enters_ixfFld : Enters Tryz.prog 137 := enters_of Tryz.func137 (by kernel_rfl) rfl
/-- slices.IndexFunc. -/
theorem ixfFld_any {B : Nat → Prop} {w : World} {v : Value} {xs : List Fld} {f : Nat} {cap : List Value} (p : Fld → Bool) (hsl : Sl FldR 3 B w v xs) (hen : Enters Tryz.prog f)
    (hp : ∀ W x cs, Ext w W → x ∈ xs → cs.length = 3 → FldR B w x cs → Calls Tryz.prog f (Value.agg cs.toArray :: cap).toArray W fun e w1 => e = .returned (.bool (p x)) ∧ Ext W w1) :
    Calls Tryz.prog 137 #[v, .func (.func f) #[] cap.toArray] w fun e w1 => e = .returned (.int .i64 (ixI p xs)) ∧ Ext w w1 := by
  have hle := hsl.len
  obtain ⟨A, c, rfl, hlc, _, hrow⟩ := hsl
  refine calls_W (args := [.slice A xs.length c, .func (.func f) #[] cap.toArray]) Tryz.func137 rfl rfl rfl ?_
  refine Wg rfl (W_region ?_)
  repeat (first | refine WL1 rfl ?_ | refine WLe rfl rfl ?_ | refine W_region ?_)
  refine WL2 inf rfl ?_
  repeat (first | refine WL1 rfl ?_ | refine WLe rfl rfl ?_ | refine W_region ?_)
  refine W_loop (fun k : Nat => [(0, [], .slice A xs.length c), (1, [], .func (.func f) #[] cap.toArray), (7, [], .int .i64 xs.length), (8, [], .int .i64 k)]) (fun k W => Ext w W ∧ k ≤ xs.length ∧ ∀ j y, j < k → xs[j]? = some y → p y = false) (fun k => xs.length - k) 0 (fun _ => rfl) ⟨rfl, rfl, rfl, rfl, trivial⟩ ⟨Ext.rfl' w, Nat.zero_le _, fun j y h => absurd h (Nat.not_lt_zero j)⟩ ?_
  rintro k W ⟨he, hk, hno⟩
  refine Wg rfl (W_region ?_)
  repeat (first | refine WL1 rfl ?_ | refine WLe rfl rfl ?_ | refine W_region ?_)
  refine W_cond rfl rfl (fun hb => ?_) (fun hb => ?_)
  · have hlt : k < xs.length := by simpa using hb
    have hx : xs[k]? = some xs[k] := List.getElem?_eq_getElem hlt
    generalize xs[k] = x at hx
    obtain ⟨a, cs, rfl, hz, hR, hcs⟩ := hrow.at_ hx
    refine Wg rfl (W_region ?_)
    repeat (first | refine WL1 rfl ?_ | refine WLe rfl rfl ?_ | refine W_region ?_)
    refine WL_ix inf rfl rfl rfl rfl rfl (fun _ => ⟨by omega, by omega⟩) ?_
    refine WL_lda inf rfl rfl (by rw [hz]; rfl) rfl (hcs.cells.ext he) ?_
    refine WL_callv rfl rfl rfl rfl rfl hen rfl (hp W x cs he (List.mem_of_getElem? hx) hz hR) ?_
    rintro e W1 ⟨rfl, he1⟩
    refine ⟨_, rfl, ?_⟩
    repeat (first | refine WL1 rfl ?_ | refine WLe rfl rfl ?_ | refine W_region ?_)
    refine W_cond rfl rfl (fun hc => ?_) (fun hc => ?_)
    · refine Wg rfl (W_region ?_)
      repeat (first | refine WL1 rfl ?_ | refine WLe rfl rfl ?_ | refine W_region ?_)
      exact W_ret1 rfl rfl rfl ⟨ret_int (ixI_some hx hc hno).symm, he.then_ he1⟩
    · refine Wg rfl (W_region ?_)
      refine WL_add rfl rfl rfl rfl rfl rfl rfl (fun _ => by omega) ?_
      repeat (first | refine WL1 rfl ?_ | refine WLe rfl rfl ?_ | refine W_region ?_)
      refine WLr rfl (k + 1) (by omega) ⟨he.then_ he1, hlt, fun j y hj hy => ?_⟩ rfl ⟨rfl, rfl, rfl, rfl, trivial⟩
      rcases Nat.lt_or_eq_of_le (Nat.le_of_lt_succ hj) with h1 | rfl
      · exact hno j y h1 hy
      · rw [hx] at hy; cases hy; exact hc
  · have hk' : k = xs.length := by simp at hb; omega
    refine Wg rfl (W_region ?_)
    repeat (first | refine WL1 rfl ?_ | refine WLe rfl rfl ?_ | refine W_region ?_)
    exact W_ret1 rfl rfl rfl ⟨ret_int (ixI_none fun j y hj hy => hno j y (by omega) hy).symm, he⟩


theorem enters_cfFld : Enters Tryz.prog 96 := enters_of Tryz.func96 (by kernel_rfl) rfl
/-- slices.ContainsFunc. -/
theorem cfFld_any {B : Nat → Prop} {w : World} {v : Value} {xs : List Fld} {f : Nat} {cap : List Value} (p : Fld → Bool) (hsl : Sl FldR 3 B w v xs) (hen : Enters Tryz.prog f)
    (hp : ∀ W x cs, Ext w W → x ∈ xs → cs.length = 3 → FldR B w x cs → Calls Tryz.prog f (Value.agg cs.toArray :: cap).toArray W fun e w1 => e = .returned (.bool (p x)) ∧ Ext W w1) :
    Calls Tryz.prog 96 #[v, .func (.func f) #[] cap.toArray] w fun e w1 => e = .returned (.bool (xs.any p)) ∧ Ext w w1 := by
  refine calls_W (args := [v, .func (.func f) #[] cap.toArray]) Tryz.func96 rfl rfl rfl ?_
  refine Wg rfl (W_region ?_)
  repeat (first | refine WL1 rfl ?_ | refine WLe rfl rfl ?_ | refine W_region ?_)
  refine WL_call rfl rfl rfl rfl rfl enters_ixfFld rfl (ixfFld_any p hsl hen hp) ?_
  rintro e W1 ⟨rfl, he1⟩
  refine ⟨_, rfl, ?_⟩
  repeat (first | refine WL1 rfl ?_ | refine WLe rfl rfl ?_ | refine W_region ?_)
  exact W_ret1 rfl rfl rfl ⟨ret_bool (ixI_any p xs), he1⟩


theorem enters_ixfL : Enters Tryz.prog 37 := enters_of Tryz.func37 (by kernel_rfl) rfl
/-- slices.IndexFunc. -/
theorem ixfL_any {B : Nat → Prop} {w : World} {v : Value} {xs : List L} {f : Nat} {cap : List Value} (p : L → Bool) (hsl : Sl StrR 1 B w v xs) (hen : Enters Tryz.prog f)
    (hp : ∀ W x, Ext w W → x ∈ xs → Len x → Calls Tryz.prog f (Value.string (mkS x) :: cap).toArray W fun e w1 => e = .returned (.bool (p x)) ∧ Ext W w1) :
    Calls Tryz.prog 37 #[v, .func (.func f) #[] cap.toArray] w fun e w1 => e = .returned (.int .i64 (ixI p xs)) ∧ Ext w w1 := by
  have hle := hsl.len
  obtain ⟨A, c, rfl, hlc, _, hrow⟩ := hsl
  refine calls_W (args := [.slice A xs.length c, .func (.func f) #[] cap.toArray]) Tryz.func37 rfl rfl rfl ?_
  refine Wg rfl (W_region ?_)
  repeat (first | refine WL1 rfl ?_ | refine WLe rfl rfl ?_ | refine W_region ?_)
  refine WL2 inf rfl ?_
  repeat (first | refine WL1 rfl ?_ | refine WLe rfl rfl ?_ | refine W_region ?_)
  refine W_loop (fun k : Nat => [(0, [], .slice A xs.length c), (1, [], .func (.func f) #[] cap.toArray), (7, [], .int .i64 xs.length), (8, [], .int .i64 k)]) (fun k W => Ext w W ∧ k ≤ xs.length ∧ ∀ j y, j < k → xs[j]? = some y → p y = false) (fun k => xs.length - k) 0 (fun _ => rfl) ⟨rfl, rfl, rfl, rfl, trivial⟩ ⟨Ext.rfl' w, Nat.zero_le _, fun j y h => absurd h (Nat.not_lt_zero j)⟩ ?_
  rintro k W ⟨he, hk, hno⟩
  refine Wg rfl (W_region ?_)
  repeat (first | refine WL1 rfl ?_ | refine WLe rfl rfl ?_ | refine W_region ?_)
  refine W_cond rfl rfl (fun hb => ?_) (fun hb => ?_)
  · have hlt : k < xs.length := by simpa using hb
    have hx : xs[k]? = some xs[k] := List.getElem?_eq_getElem hlt
    generalize xs[k] = x at hx
    obtain ⟨a, cs, rfl, hz, hR, hcs⟩ := hrow.at_ hx
    refine Wg rfl (W_region ?_)
    repeat (first | refine WL1 rfl ?_ | refine WLe rfl rfl ?_ | refine W_region ?_)
    refine WL_ix inf rfl rfl rfl rfl rfl (fun _ => ⟨by omega, by omega⟩) ?_
    obtain ⟨rfl, hlen⟩ := hR
    refine WL_ld inf rfl rfl rfl rfl ((hcs.cells.ext he).at_ (j := 0) rfl) ?_
    refine WL_callv rfl rfl rfl rfl rfl hen rfl (hp W x he (List.mem_of_getElem? hx) hlen) ?_
    rintro e W1 ⟨rfl, he1⟩
    refine ⟨_, rfl, ?_⟩
    repeat (first | refine WL1 rfl ?_ | refine WLe rfl rfl ?_ | refine W_region ?_)
    refine W_cond rfl rfl (fun hc => ?_) (fun hc => ?_)
    · refine Wg rfl (W_region ?_)
      repeat (first | refine WL1 rfl ?_ | refine WLe rfl rfl ?_ | refine W_region ?_)
      exact W_ret1 rfl rfl rfl ⟨ret_int (ixI_some hx hc hno).symm, he.then_ he1⟩
    · refine Wg rfl (W_region ?_)
      refine WL_add rfl rfl rfl rfl rfl rfl rfl (fun _ => by omega) ?_
      repeat (first | refine WL1 rfl ?_ | refine WLe rfl rfl ?_ | refine W_region ?_)
      refine WLr rfl (k + 1) (by omega) ⟨he.then_ he1, hlt, fun j y hj hy => ?_⟩ rfl ⟨rfl, rfl, rfl, rfl, trivial⟩
      rcases Nat.lt_or_eq_of_le (Nat.le_of_lt_succ hj) with h1 | rfl
      · exact hno j y h1 hy
      · rw [hx] at hy; cases hy; exact hc
  · have hk' : k = xs.length := by simp at hb; omega
    refine Wg rfl (W_region ?_)
    repeat (first | refine WL1 rfl ?_ | refine WLe rfl rfl ?_ | refine W_region ?_)
    exact W_ret1 rfl rfl rfl ⟨ret_int (ixI_none fun j y hj hy => hno j y (by omega) hy).symm, he⟩


theorem enters_cfL : Enters Tryz.prog 78 := enters_of Tryz.func78 (by kernel_rfl) rfl
/-- slices.ContainsFunc. -/
theorem cfL_any {B : Nat → Prop} {w : World} {v : Value} {xs : List L} {f : Nat} {cap : List Value} (p : L → Bool) (hsl : Sl StrR 1 B w v xs) (hen : Enters Tryz.prog f)
    (hp : ∀ W x, Ext w W → x ∈ xs → Len x → Calls Tryz.prog f (Value.string (mkS x) :: cap).toArray W fun e w1 => e = .returned (.bool (p x)) ∧ Ext W w1) :
    Calls Tryz.prog 78 #[v, .func (.func f) #[] cap.toArray] w fun e w1 => e = .returned (.bool (xs.any p)) ∧ Ext w w1 := by
  refine calls_W (args := [v, .func (.func f) #[] cap.toArray]) Tryz.func78 rfl rfl rfl ?_
  refine Wg rfl (W_region ?_)
  repeat (first | refine WL1 rfl ?_ | refine WLe rfl rfl ?_ | refine W_region ?_)
  refine WL_call rfl rfl rfl rfl rfl enters_ixfL rfl (ixfL_any p hsl hen hp) ?_
  rintro e W1 ⟨rfl, he1⟩
  refine ⟨_, rfl, ?_⟩
  repeat (first | refine WL1 rfl ?_ | refine WLe rfl rfl ?_ | refine W_region ?_)
  exact W_ret1 rfl rfl rfl ⟨ret_bool (ixI_any p xs), he1⟩


/-- slices.IndexFunc. -/
theorem ixqCls_any {B : Nat → Prop} {w : World} {v : Value} {xs : List Cls} {f : Nat} {cap : List Value} (p : Cls → Bool) (hsl : Sl ClsR 7 B w v xs) (hen : Enters Tryz.prog f)
    (hp : ∀ x cs, x ∈ xs → cs.length = 7 → ClsR B w x cs → Calls Tryz.prog f (Value.agg cs.toArray :: cap).toArray w fun e w1 => e = .returned (.bool (p x)) ∧ w = w1) :
    Calls Tryz.prog 124 #[v, .func (.func f) #[] cap.toArray] w fun e w1 => e = .returned (.int .i64 (ixI p xs)) ∧ w = w1 := by
  have hle := hsl.len
  obtain ⟨A, c, rfl, hlc, _, hrow⟩ := hsl
  refine calls_W (args := [.slice A xs.length c, .func (.func f) #[] cap.toArray]) Tryz.func124 rfl rfl rfl ?_
  refine Wg rfl (W_region ?_)
  repeat (first | refine WL1 rfl ?_ | refine WLe rfl rfl ?_ | refine W_region ?_)
  refine WL2 inf rfl ?_
  repeat (first | refine WL1 rfl ?_ | refine WLe rfl rfl ?_ | refine W_region ?_)
  refine W_loop (fun k : Nat => [(0, [], .slice A xs.length c), (1, [], .func (.func f) #[] cap.toArray), (7, [], .int .i64 xs.length), (8, [], .int .i64 k)]) (fun k W => w = W ∧ k ≤ xs.length ∧ ∀ j y, j < k → xs[j]? = some y → p y = false) (fun k => xs.length - k) 0 (fun _ => rfl) ⟨rfl, rfl, rfl, rfl, trivial⟩ ⟨rfl, Nat.zero_le _, fun j y h => absurd h (Nat.not_lt_zero j)⟩ ?_
  rintro k W ⟨rfl, hk, hno⟩
  refine Wg rfl (W_region ?_)
  repeat (first | refine WL1 rfl ?_ | refine WLe rfl rfl ?_ | refine W_region ?_)
  refine W_cond rfl rfl (fun hb => ?_) (fun hb => ?_)
  · have hlt : k < xs.length := by simpa using hb
    have hx : xs[k]? = some xs[k] := List.getElem?_eq_getElem hlt
    generalize xs[k] = x at hx
    obtain ⟨a, cs, rfl, hz, hR, hcs⟩ := hrow.at_ hx
    refine Wg rfl (W_region ?_)
    repeat (first | refine WL1 rfl ?_ | refine WLe rfl rfl ?_ | refine W_region ?_)
    refine WL_ix inf rfl rfl rfl rfl rfl (fun _ => ⟨by omega, by omega⟩) ?_
    refine WL_lda inf rfl rfl (by rw [hz]; rfl) rfl hcs.cells ?_
    refine WL_callv rfl rfl rfl rfl rfl hen rfl (hp x cs (List.mem_of_getElem? hx) hz hR) ?_
    rintro e W1 ⟨rfl, rfl⟩
    refine ⟨_, rfl, ?_⟩
    repeat (first | refine WL1 rfl ?_ | refine WLe rfl rfl ?_ | refine W_region ?_)
    refine W_cond rfl rfl (fun hc => ?_) (fun hc => ?_)
    · refine Wg rfl (W_region ?_)
      repeat (first | refine WL1 rfl ?_ | refine WLe rfl rfl ?_ | refine W_region ?_)
      exact W_ret1 rfl rfl rfl ⟨ret_int (ixI_some hx hc hno).symm, rfl⟩
    · refine Wg rfl (W_region ?_)
      refine WL_add rfl rfl rfl rfl rfl rfl rfl (fun _ => by omega) ?_
      repeat (first | refine WL1 rfl ?_ | refine WLe rfl rfl ?_ | refine W_region ?_)
      refine WLr rfl (k + 1) (by omega) ⟨rfl, hlt, fun j y hj hy => ?_⟩ rfl ⟨rfl, rfl, rfl, rfl, trivial⟩
      rcases Nat.lt_or_eq_of_le (Nat.le_of_lt_succ hj) with h1 | rfl
      · exact hno j y h1 hy
      · rw [hx] at hy; cases hy; exact hc
  · have hk' : k = xs.length := by simp at hb; omega
    refine Wg rfl (W_region ?_)
    repeat (first | refine WL1 rfl ?_ | refine WLe rfl rfl ?_ | refine W_region ?_)
    exact W_ret1 rfl rfl rfl ⟨ret_int (ixI_none fun j y hj hy => hno j y (by omega) hy).symm, rfl⟩


/-- slices.ContainsFunc. -/
theorem cfqCls_any {B : Nat → Prop} {w : World} {v : Value} {xs : List Cls} {f : Nat} {cap : List Value} (p : Cls → Bool) (hsl : Sl ClsR 7 B w v xs) (hen : Enters Tryz.prog f)
    (hp : ∀ x cs, x ∈ xs → cs.length = 7 → ClsR B w x cs → Calls Tryz.prog f (Value.agg cs.toArray :: cap).toArray w fun e w1 => e = .returned (.bool (p x)) ∧ w = w1) :
    Calls Tryz.prog 87 #[v, .func (.func f) #[] cap.toArray] w fun e w1 => e = .returned (.bool (xs.any p)) ∧ w = w1 := by
  refine calls_W (args := [v, .func (.func f) #[] cap.toArray]) Tryz.func87 rfl rfl rfl ?_
  refine Wg rfl (W_region ?_)
  repeat (first | refine WL1 rfl ?_ | refine WLe rfl rfl ?_ | refine W_region ?_)
  refine WL_call rfl rfl rfl rfl rfl enters_ixfCls rfl (ixqCls_any p hsl hen hp) ?_
  rintro e W1 ⟨rfl, rfl⟩
  refine ⟨_, rfl, ?_⟩
  repeat (first | refine WL1 rfl ?_ | refine WLe rfl rfl ?_ | refine W_region ?_)
  exact W_ret1 rfl rfl rfl ⟨ret_bool (ixI_any p xs), rfl⟩


/-- slices.IndexFunc. -/
theorem ixqMth_any {B : Nat → Prop} {w : World} {v : Value} {xs : List Mth} {f : Nat} {cap : List Value} (p : Mth → Bool) (hsl : Sl MthR 8 B w v xs) (hen : Enters Tryz.prog f)
    (hp : ∀ x cs, x ∈ xs → cs.length = 8 → MthR B w x cs → Calls Tryz.prog f (Value.agg cs.toArray :: cap).toArray w fun e w1 => e = .returned (.bool (p x)) ∧ w = w1) :
    Calls Tryz.prog 138 #[v, .func (.func f) #[] cap.toArray] w fun e w1 => e = .returned (.int .i64 (ixI p xs)) ∧ w = w1 := by
  have hle := hsl.len
  obtain ⟨A, c, rfl, hlc, _, hrow⟩ := hsl
  refine calls_W (args := [.slice A xs.length c, .func (.func f) #[] cap.toArray]) Tryz.func138 rfl rfl rfl ?_
  refine Wg rfl (W_region ?_)
  repeat (first | refine WL1 rfl ?_ | refine WLe rfl rfl ?_ | refine W_region ?_)
  refine WL2 inf rfl ?_
  repeat (first | refine WL1 rfl ?_ | refine WLe rfl rfl ?_ | refine W_region ?_)
  refine W_loop (fun k : Nat => [(0, [], .slice A xs.length c), (1, [], .func (.func f) #[] cap.toArray), (7, [], .int .i64 xs.length), (8, [], .int .i64 k)]) (fun k W => w = W ∧ k ≤ xs.length ∧ ∀ j y, j < k → xs[j]? = some y → p y = false) (fun k => xs.length - k) 0 (fun _ => rfl) ⟨rfl, rfl, rfl, rfl, trivial⟩ ⟨rfl, Nat.zero_le _, fun j y h => absurd h (Nat.not_lt_zero j)⟩ ?_
  rintro k W ⟨rfl, hk, hno⟩
  refine Wg rfl (W_region ?_)
  repeat (first | refine WL1 rfl ?_ | refine WLe rfl rfl ?_ | refine W_region ?_)
  refine W_cond rfl rfl (fun hb => ?_) (fun hb => ?_)
  · have hlt : k < xs.length := by simpa using hb
    have hx : xs[k]? = some xs[k] := List.getElem?_eq_getElem hlt
    generalize xs[k] = x at hx
    obtain ⟨a, cs, rfl, hz, hR, hcs⟩ := hrow.at_ hx
    refine Wg rfl (W_region ?_)
    repeat (first | refine WL1 rfl ?_ | refine WLe rfl rfl ?_ | refine W_region ?_)
    refine WL_ix inf rfl rfl rfl rfl rfl (fun _ => ⟨by omega, by omega⟩) ?_
    refine WL_lda inf rfl rfl (by rw [hz]; rfl) rfl hcs.cells ?_
    refine WL_callv rfl rfl rfl rfl rfl hen rfl (hp x cs (List.mem_of_getElem? hx) hz hR) ?_
    rintro e W1 ⟨rfl, rfl⟩
    refine ⟨_, rfl, ?_⟩
    repeat (first | refine WL1 rfl ?_ | refine WLe rfl rfl ?_ | refine W_region ?_)
    refine W_cond rfl rfl (fun hc => ?_) (fun hc => ?_)
    · refine Wg rfl (W_region ?_)
      repeat (first | refine WL1 rfl ?_ | refine WLe rfl rfl ?_ | refine W_region ?_)
      exact W_ret1 rfl rfl rfl ⟨ret_int (ixI_some hx hc hno).symm, rfl⟩
    · refine Wg rfl (W_region ?_)
      refine WL_add rfl rfl rfl rfl rfl rfl rfl (fun _ => by omega) ?_
      repeat (first | refine WL1 rfl ?_ | refine WLe rfl rfl ?_ | refine W_region ?_)
      refine WLr rfl (k + 1) (by omega) ⟨rfl, hlt, fun j y hj hy => ?_⟩ rfl ⟨rfl, rfl, rfl, rfl, trivial⟩
      rcases Nat.lt_or_eq_of_le (Nat.le_of_lt_succ hj) with h1 | rfl
      · exact hno j y h1 hy
      · rw [hx] at hy; cases hy; exact hc
  · have hk' : k = xs.length := by simp at hb; omega
    refine Wg rfl (W_region ?_)
    repeat (first | refine WL1 rfl ?_ | refine WLe rfl rfl ?_ | refine W_region ?_)
    exact W_ret1 rfl rfl rfl ⟨ret_int (ixI_none fun j y hj hy => hno j y (by omega) hy).symm, rfl⟩


/-- slices.ContainsFunc. -/
theorem cfqMth_any {B : Nat → Prop} {w : World} {v : Value} {xs : List Mth} {f : Nat} {cap : List Value} (p : Mth → Bool) (hsl : Sl MthR 8 B w v xs) (hen : Enters Tryz.prog f)
    (hp : ∀ x cs, x ∈ xs → cs.length = 8 → MthR B w x cs → Calls Tryz.prog f (Value.agg cs.toArray :: cap).toArray w fun e w1 => e = .returned (.bool (p x)) ∧ w = w1) :
    Calls Tryz.prog 98 #[v, .func (.func f) #[] cap.toArray] w fun e w1 => e = .returned (.bool (xs.any p)) ∧ w = w1 := by
  refine calls_W (args := [v, .func (.func f) #[] cap.toArray]) Tryz.func98 rfl rfl rfl ?_
  refine Wg rfl (W_region ?_)
  repeat (first | refine WL1 rfl ?_ | refine WLe rfl rfl ?_ | refine W_region ?_)
  refine WL_call rfl rfl rfl rfl rfl enters_ixfMth rfl (ixqMth_any p hsl hen hp) ?_
  rintro e W1 ⟨rfl, rfl⟩
  refine ⟨_, rfl, ?_⟩
  repeat (first | refine WL1 rfl ?_ | refine WLe rfl rfl ?_ | refine W_region ?_)
  exact W_ret1 rfl rfl rfl ⟨ret_bool (ixI_any p xs), rfl⟩


/-- slices.IndexFunc. -/
theorem ixqFld_any {B : Nat → Prop} {w : World} {v : Value} {xs : List Fld} {f : Nat} {cap : List Value} (p : Fld → Bool) (hsl : Sl FldR 3 B w v xs) (hen : Enters Tryz.prog f)
    (hp : ∀ x cs, x ∈ xs → cs.length = 3 → FldR B w x cs → Calls Tryz.prog f (Value.agg cs.toArray :: cap).toArray w fun e w1 => e = .returned (.bool (p x)) ∧ w = w1) :
    Calls Tryz.prog 137 #[v, .func (.func f) #[] cap.toArray] w fun e w1 => e = .returned (.int .i64 (ixI p xs)) ∧ w = w1 := by
  have hle := hsl.len
  obtain ⟨A, c, rfl, hlc, _, hrow⟩ := hsl
  refine calls_W (args := [.slice A xs.length c, .func (.func f) #[] cap.toArray]) Tryz.func137 rfl rfl rfl ?_
  refine Wg rfl (W_region ?_)
  repeat (first | refine WL1 rfl ?_ | refine WLe rfl rfl ?_ | refine W_region ?_)
  refine WL2 inf rfl ?_
  repeat (first | refine WL1 rfl ?_ | refine WLe rfl rfl ?_ | refine W_region ?_)
  refine W_loop (fun k : Nat => [(0, [], .slice A xs.length c), (1, [], .func (.func f) #[] cap.toArray), (7, [], .int .i64 xs.length), (8, [], .int .i64 k)]) (fun k W => w = W ∧ k ≤ xs.length ∧ ∀ j y, j < k → xs[j]? = some y → p y = false) (fun k => xs.length - k) 0 (fun _ => rfl) ⟨rfl, rfl, rfl, rfl, trivial⟩ ⟨rfl, Nat.zero_le _, fun j y h => absurd h (Nat.not_lt_zero j)⟩ ?_
  rintro k W ⟨rfl, hk, hno⟩
  refine Wg rfl (W_region ?_)
  repeat (first | refine WL1 rfl ?_ | refine WLe rfl rfl ?_ | refine W_region ?_)
  refine W_cond rfl rfl (fun hb => ?_) (fun hb => ?_)
  · have hlt : k < xs.length := by simpa using hb
    have hx : xs[k]? = some xs[k] := List.getElem?_eq_getElem hlt
    generalize xs[k] = x at hx
    obtain ⟨a, cs, rfl, hz, hR, hcs⟩ := hrow.at_ hx
    refine Wg rfl (W_region ?_)
    repeat (first | refine WL1 rfl ?_ | refine WLe rfl rfl ?_ | refine W_region ?_)
    refine WL_ix inf rfl rfl rfl rfl rfl (fun _ => ⟨by omega, by omega⟩) ?_
    refine WL_lda inf rfl rfl (by rw [hz]; rfl) rfl hcs.cells ?_
    refine WL_callv rfl rfl rfl rfl rfl hen rfl (hp x cs (List.mem_of_getElem? hx) hz hR) ?_
    rintro e W1 ⟨rfl, rfl⟩
    refine ⟨_, rfl, ?_⟩
    repeat (first | refine WL1 rfl ?_ | refine WLe rfl rfl ?_ | refine W_region ?_)
    refine W_cond rfl rfl (fun hc => ?_) (fun hc => ?_)
    · refine Wg rfl (W_region ?_)
      repeat (first | refine WL1 rfl ?_ | refine WLe rfl rfl ?_ | refine W_region ?_)
      exact W_ret1 rfl rfl rfl ⟨ret_int (ixI_some hx hc hno).symm, rfl⟩
    · refine Wg rfl (W_region ?_)
      refine WL_add rfl rfl rfl rfl rfl rfl rfl (fun _ => by omega) ?_
      repeat (first | refine WL1 rfl ?_ | refine WLe rfl rfl ?_ | refine W_region ?_)
      refine WLr rfl (k + 1) (by omega) ⟨rfl, hlt, fun j y hj hy => ?_⟩ rfl ⟨rfl, rfl, rfl, rfl, trivial⟩
      rcases Nat.lt_or_eq_of_le (Nat.le_of_lt_succ hj) with h1 | rfl
      · exact hno j y h1 hy
      · rw [hx] at hy; cases hy; exact hc
  · have hk' : k = xs.length := by simp at hb; omega
    refine Wg rfl (W_region ?_)
    repeat (first | refine WL1 rfl ?_ | refine WLe rfl rfl ?_ | refine W_region ?_)
    exact W_ret1 rfl rfl rfl ⟨ret_int (ixI_none fun j y hj hy => hno j y (by omega) hy).symm, rfl⟩


/-- slices.ContainsFunc. -/
theorem cfqFld_any {B : Nat → Prop} {w : World} {v : Value} {xs : List Fld} {f : Nat} {cap : List Value} (p : Fld → Bool) (hsl : Sl FldR 3 B w v xs) (hen : Enters Tryz.prog f)
    (hp : ∀ x cs, x ∈ xs → cs.length = 3 → FldR B w x cs → Calls Tryz.prog f (Value.agg cs.toArray :: cap).toArray w fun e w1 => e = .returned (.bool (p x)) ∧ w = w1) :
    Calls Tryz.prog 96 #[v, .func (.func f) #[] cap.toArray] w fun e w1 => e = .returned (.bool (xs.any p)) ∧ w = w1 := by
  refine calls_W (args := [v, .func (.func f) #[] cap.toArray]) Tryz.func96 rfl rfl rfl ?_
  refine Wg rfl (W_region ?_)
  repeat (first | refine WL1 rfl ?_ | refine WLe rfl rfl ?_ | refine W_region ?_)
  refine WL_call rfl rfl rfl rfl rfl enters_ixfFld rfl (ixqFld_any p hsl hen hp) ?_
  rintro e W1 ⟨rfl, rfl⟩
  refine ⟨_, rfl, ?_⟩
  repeat (first | refine WL1 rfl ?_ | refine WLe rfl rfl ?_ | refine W_region ?_)
  exact W_ret1 rfl rfl rfl ⟨ret_bool (ixI_any p xs), rfl⟩


/-- slices.IndexFunc. -/
theorem ixqL_any {B : Nat → Prop} {w : World} {v : Value} {xs : List L} {f : Nat} {cap : List Value} (p : L → Bool) (hsl : Sl StrR 1 B w v xs) (hen : Enters Tryz.prog f)
    (hp : ∀ x, x ∈ xs → Len x → Calls Tryz.prog f (Value.string (mkS x) :: cap).toArray w fun e w1 => e = .returned (.bool (p x)) ∧ w = w1) :
    Calls Tryz.prog 37 #[v, .func (.func f) #[] cap.toArray] w fun e w1 => e = .returned (.int .i64 (ixI p xs)) ∧ w = w1 := by
  have hle := hsl.len
  obtain ⟨A, c, rfl, hlc, _, hrow⟩ := hsl
  refine calls_W (args := [.slice A xs.length c, .func (.func f) #[] cap.toArray]) Tryz.func37 rfl rfl rfl ?_
  refine Wg rfl (W_region ?_)
  repeat (first | refine WL1 rfl ?_ | refine WLe rfl rfl ?_ | refine W_region ?_)
  refine WL2 inf rfl ?_
  repeat (first | refine WL1 rfl ?_ | refine WLe rfl rfl ?_ | refine W_region ?_)
  refine W_loop (fun k : Nat => [(0, [], .slice A xs.length c), (1, [], .func (.func f) #[] cap.toArray), (7, [], .int .i64 xs.length), (8, [], .int .i64 k)]) (fun k W => w = W ∧ k ≤ xs.length ∧ ∀ j y, j < k → xs[j]? = some y → p y = false) (fun k => xs.length - k) 0 (fun _ => rfl) ⟨rfl, rfl, rfl, rfl, trivial⟩ ⟨rfl, Nat.zero_le _, fun j y h => absurd h (Nat.not_lt_zero j)⟩ ?_
  rintro k W ⟨rfl, hk, hno⟩
  refine Wg rfl (W_region ?_)
  repeat (first | refine WL1 rfl ?_ | refine WLe rfl rfl ?_ | refine W_region ?_)
  refine W_cond rfl rfl (fun hb => ?_) (fun hb => ?_)
  · have hlt : k < xs.length := by simpa using hb
    have hx : xs[k]? = some xs[k] := List.getElem?_eq_getElem hlt
    generalize xs[k] = x at hx
    obtain ⟨a, cs, rfl, hz, hR, hcs⟩ := hrow.at_ hx
    refine Wg rfl (W_region ?_)
    repeat (first | refine WL1 rfl ?_ | refine WLe rfl rfl ?_ | refine W_region ?_)
    refine WL_ix inf rfl rfl rfl rfl rfl (fun _ => ⟨by omega, by omega⟩) ?_
    obtain ⟨rfl, hlen⟩ := hR
    refine WL_ld inf rfl rfl rfl rfl (hcs.cells.at_ (j := 0) rfl) ?_
    refine WL_callv rfl rfl rfl rfl rfl hen rfl (hp x (List.mem_of_getElem? hx) hlen) ?_
    rintro e W1 ⟨rfl, rfl⟩
    refine ⟨_, rfl, ?_⟩
    repeat (first | refine WL1 rfl ?_ | refine WLe rfl rfl ?_ | refine W_region ?_)
    refine W_cond rfl rfl (fun hc => ?_) (fun hc => ?_)
    · refine Wg rfl (W_region ?_)
      repeat (first | refine WL1 rfl ?_ | refine WLe rfl rfl ?_ | refine W_region ?_)
      exact W_ret1 rfl rfl rfl ⟨ret_int (ixI_some hx hc hno).symm, rfl⟩
    · refine Wg rfl (W_region ?_)
      refine WL_add rfl rfl rfl rfl rfl rfl rfl (fun _ => by omega) ?_
      repeat (first | refine WL1 rfl ?_ | refine WLe rfl rfl ?_ | refine W_region ?_)
      refine WLr rfl (k + 1) (by omega) ⟨rfl, hlt, fun j y hj hy => ?_⟩ rfl ⟨rfl, rfl, rfl, rfl, trivial⟩
      rcases Nat.lt_or_eq_of_le (Nat.le_of_lt_succ hj) with h1 | rfl
      · exact hno j y h1 hy
      · rw [hx] at hy; cases hy; exact hc
  · have hk' : k = xs.length := by simp at hb; omega
    refine Wg rfl (W_region ?_)
    repeat (first | refine WL1 rfl ?_ | refine WLe rfl rfl ?_ | refine W_region ?_)
    exact W_ret1 rfl rfl rfl ⟨ret_int (ixI_none fun j y hj hy => hno j y (by omega) hy).symm, rfl⟩


/-- slices.ContainsFunc. -/
theorem cfqL_any {B : Nat → Prop} {w : World} {v : Value} {xs : List L} {f : Nat} {cap : List Value} (p : L → Bool) (hsl : Sl StrR 1 B w v xs) (hen : Enters Tryz.prog f)
    (hp : ∀ x, x ∈ xs → Len x → Calls Tryz.prog f (Value.string (mkS x) :: cap).toArray w fun e w1 => e = .returned (.bool (p x)) ∧ w = w1) :
    Calls Tryz.prog 78 #[v, .func (.func f) #[] cap.toArray] w fun e w1 => e = .returned (.bool (xs.any p)) ∧ w = w1 := by
  refine calls_W (args := [v, .func (.func f) #[] cap.toArray]) Tryz.func78 rfl rfl rfl ?_
  refine Wg rfl (W_region ?_)
  repeat (first | refine WL1 rfl ?_ | refine WLe rfl rfl ?_ | refine W_region ?_)
  refine WL_call rfl rfl rfl rfl rfl enters_ixfL rfl (ixqL_any p hsl hen hp) ?_
  rintro e W1 ⟨rfl, rfl⟩
  refine ⟨_, rfl, ?_⟩
  repeat (first | refine WL1 rfl ?_ | refine WLe rfl rfl ?_ | refine W_region ?_)
  exact W_ret1 rfl rfl rfl ⟨ret_bool (ixI_any p xs), rfl⟩


theorem enters_ixStr : Enters Tryz.prog 68 := enters_of Tryz.func68 (by kernel_rfl) rfl
/-- slices.Index of texts. -/
theorem ixStr_any {B : Nat → Prop} {w : World} {v : Value} {xs : List L} (x : L) (hsl : Sl StrR 1 B w v xs) :
    Calls Tryz.prog 68 #[v, .string (mkS x)] w fun e w1 => e = .returned (.int .i64 (ixI (fun y => x == y) xs)) ∧ w = w1 := by
  have hle := hsl.len
  obtain ⟨A, c, rfl, hlc, _, hrow⟩ := hsl
  refine calls_W (args := [.slice A xs.length c, .string (mkS x)]) Tryz.func68 rfl rfl rfl ?_
  refine Wg rfl (W_region ?_)
  repeat (first | refine WL1 rfl ?_ | refine WLe rfl rfl ?_ | refine W_region ?_)
  refine WL2 inf rfl ?_
  repeat (first | refine WL1 rfl ?_ | refine WLe rfl rfl ?_ | refine W_region ?_)
  refine W_loop (fun k : Nat => [(0, [], .slice A xs.length c), (1, [], .string (mkS x)), (7, [], .int .i64 xs.length), (8, [], .int .i64 k)]) (fun k W => w = W ∧ k ≤ xs.length ∧ ∀ j y, j < k → xs[j]? = some y → (x == y) = false) (fun k => xs.length - k) 0 (fun _ => rfl) ⟨rfl, rfl, rfl, rfl, trivial⟩ ⟨rfl, Nat.zero_le _, fun j y h => absurd h (Nat.not_lt_zero j)⟩ ?_
  rintro k W ⟨rfl, hk, hno⟩
  refine Wg rfl (W_region ?_)
  repeat (first | refine WL1 rfl ?_ | refine WLe rfl rfl ?_ | refine W_region ?_)
  refine W_cond rfl rfl (fun hb => ?_) (fun hb => ?_)
  · have hlt : k < xs.length := by simpa using hb
    have hx : xs[k]? = some xs[k] := List.getElem?_eq_getElem hlt
    generalize xs[k] = y at hx
    obtain ⟨a, cs, rfl, hz, hR, hcs⟩ := hrow.at_ hx
    obtain ⟨rfl, hlen⟩ := hR
    refine Wg rfl (W_region ?_)
    repeat (first | refine WL1 rfl ?_ | refine WLe rfl rfl ?_ | refine W_region ?_)
    refine WL_ix inf rfl rfl rfl rfl rfl (fun _ => ⟨by omega, by omega⟩) ?_
    refine WL_ld inf rfl rfl rfl rfl (hcs.cells.at_ (j := 0) rfl) ?_
    repeat (first | refine WL1 rfl ?_ | refine WLe rfl rfl ?_ | refine W_region ?_)
    refine W_cond rfl rfl (fun hc => ?_) (fun hc => ?_)
    · refine Wg rfl (W_region ?_)
      repeat (first | refine WL1 rfl ?_ | refine WLe rfl rfl ?_ | refine W_region ?_)
      exact W_ret1 rfl rfl rfl ⟨ret_int (ixI_some hx hc hno).symm, rfl⟩
    · refine Wg rfl (W_region ?_)
      refine WL_add rfl rfl rfl rfl rfl rfl rfl (fun _ => by omega) ?_
      repeat (first | refine WL1 rfl ?_ | refine WLe rfl rfl ?_ | refine W_region ?_)
      refine WLr rfl (k + 1) (by omega) ⟨rfl, hlt, fun j z hj hz => ?_⟩ rfl ⟨rfl, rfl, rfl, rfl, trivial⟩
      rcases Nat.lt_or_eq_of_le (Nat.le_of_lt_succ hj) with h1 | rfl
      · exact hno j z h1 hz
      · rw [hx] at hz; cases hz; exact hc
  · have hk' : k = xs.length := by simp at hb; omega
    refine Wg rfl (W_region ?_)
    repeat (first | refine WL1 rfl ?_ | refine WLe rfl rfl ?_ | refine W_region ?_)
    exact W_ret1 rfl rfl rfl ⟨ret_int (ixI_none fun j y hj hy => hno j y (by omega) hy).symm, rfl⟩
theorem enters_hasStr : Enters Tryz.prog 29 := enters_of Tryz.func29 (by kernel_rfl) rfl
/-- slices.Contains of texts. -/
theorem hasStr_any {B : Nat → Prop} {w : World} {v : Value} {xs : List L} (x : L) (hsl : Sl StrR 1 B w v xs) :
    Calls Tryz.prog 29 #[v, .string (mkS x)] w fun e w1 => e = .returned (.bool (xs.contains x)) ∧ w = w1 := by
  refine calls_W (args := [v, .string (mkS x)]) Tryz.func29 rfl rfl rfl ?_
  refine Wg rfl (W_region ?_)
  repeat (first | refine WL1 rfl ?_ | refine WLe rfl rfl ?_ | refine W_region ?_)
  refine WL_callq rfl rfl rfl rfl rfl enters_ixStr rfl (fun _ => ixStr_any x hsl) ?_
  repeat (first | refine WL1 rfl ?_ | refine WLe rfl rfl ?_ | refine W_region ?_)
  refine W_ret1 rfl rfl rfl ⟨ret_bool ?_, rfl⟩
  rw [ixI_any, List.contains_eq_any_beq]

end Go.Proofs.YtljcmmmajjmpoaaGreatDoor
