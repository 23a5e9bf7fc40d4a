/- classfile: the checks of a method. -/
import Derived.Test.YtljcmmmajjmpoaaGreatDoorPoolc
namespace Go.Proofs.YtljcmmmajjmpoaaGreatDoor
open Go.RowKit Sp

/-- How many locals a method has at least. -/
def leastM (m : Mth) : Int := if m.stat then (methodV m.desc).1.length else (methodV m.desc).1.length + 1
theorem methodV_le (l : L) : (methodV l).1.length ≤ 8 := by
  rw [methodV_eq]
  split
  · exact (paramsD_le 8 _).2.2
  · simp
theorem enters_least : Enters Tryz.prog 120 := enters_of Tryz.func120 (by kernel_rfl) rfl
theorem least_any (m : Mth) (cv hv : Value) (w : World) (hl : Len m.desc) : Calls Tryz.prog 120 #[.agg (Mth.cs m cv hv).toArray] w fun e w' => e = .returned (.int .i64 (leastM m)) ∧ Ext w w' := by
  have h8 := methodV_le m.desc
  refine calls_W (args := [.agg (Mth.cs m cv hv).toArray]) Tryz.func120 rfl rfl rfl ?_
  refine Wg rfl (W_region ?_)
  refine WL_box (cs := Mth.cs m cv hv) rfl rfl rfl rfl rfl ?_
  rintro g w1 hg hB hE
  repeat (first | refine WL1 rfl ?_ | refine WLe rfl rfl ?_ | refine W_region ?_ | refine WL2 inf rfl ?_ | refine WL_ld inf rfl rfl rfl rfl (Blk.cell (by assumption) rfl) ?_)
  refine WL_call rfl rfl rfl rfl rfl enters_method rfl (method_any m.desc _ hl) ?_
  rintro e w2 ⟨v, rfl, hE2, hown⟩
  refine ⟨_, rfl, ?_⟩
  replace hE := hE.then_ hE2
  replace hB := hB.ext hE2
  obtain ⟨A, c, rfl⟩ := hown.val
  rw [List.length_map]
  repeat (first | refine WL1 rfl ?_ | refine WLe rfl rfl ?_ | refine W_region ?_ | refine WL2 inf rfl ?_ | refine WL_ld inf rfl rfl rfl rfl (Blk.cell (by assumption) rfl) ?_)
  refine WL_callq rfl rfl rfl rfl rfl enters_words rfl (fun _ => words_any A _ c _) ?_
  repeat (first | refine WL1 rfl ?_ | refine WLe rfl rfl ?_ | refine W_region ?_ | refine WL2 inf rfl ?_ | refine WL_ld inf rfl rfl rfl rfl (Blk.cell (by assumption) rfl) ?_)
  refine W_cond rfl rfl (fun hb => ?_) (fun hb => ?_)
  · refine Wg rfl (W_region ?_)
    repeat (first | refine WL1 rfl ?_ | refine WLe rfl rfl ?_ | refine W_region ?_ | refine WL2 inf rfl ?_ | refine WL_ld inf rfl rfl rfl rfl (Blk.cell (by assumption) rfl) ?_)
    refine WL_add rfl rfl rfl rfl rfl rfl rfl (fun _ => by omega) ?_
    repeat (first | refine WL1 rfl ?_ | refine WLe rfl rfl ?_ | refine W_region ?_ | refine WL2 inf rfl ?_ | refine WL_ld inf rfl rfl rfl rfl (Blk.cell (by assumption) rfl) ?_)
    refine W_ret1 rfl rfl rfl ⟨ret_int ?_, hE⟩
    unfold leastM
    rw [if_neg (by simpa using hb)]
  · refine Wg rfl (W_region ?_)
    repeat (first | refine WL1 rfl ?_ | refine WLe rfl rfl ?_ | refine W_region ?_ | refine WL2 inf rfl ?_ | refine WL_ld inf rfl rfl rfl rfl (Blk.cell (by assumption) rfl) ?_)
    refine W_ret1 rfl rfl rfl ⟨ret_int ?_, hE⟩
    unfold leastM
    rw [if_pos (by simpa using hb)]
/-- May a method's texts be? -/
def namedM (m : Mth) : Bool :=
  if (methodV m.desc).2.2 != 0 || !mnameB m.name then false
  else if m.name == clinit_ then m.stat && m.desc == [40, 41, 86]
  else if m.name == init_ then !m.stat && !m.abst && (methodV m.desc).2.1 == [86]
  else true
theorem enters_cnamed : Enters Tryz.prog 118 := enters_of Tryz.func118 (by kernel_rfl) rfl
theorem cnamed_any (m : Mth) (cv hv : Value) (w : World) (hn : Len m.name) (hl : Len m.desc) : Calls Tryz.prog 118 #[.agg (Mth.cs m cv hv).toArray] w fun e w' => e = .returned (.bool (namedM m)) ∧ Ext w w' := by
  refine calls_W (args := [.agg (Mth.cs m cv hv).toArray]) Tryz.func118 rfl rfl rfl ?_
  refine Wg rfl (W_region ?_)
  refine WL_box (cs := Mth.cs m cv hv) rfl rfl rfl rfl rfl ?_
  rintro g w1 hg hB hE
  repeat (first | refine WL1 rfl ?_ | refine WLe rfl rfl ?_ | refine W_region ?_ | refine WL2 inf rfl ?_ | refine WL_ld inf rfl rfl rfl rfl (Blk.cell (by assumption) rfl) ?_)
  refine WL_call rfl rfl rfl rfl rfl enters_method rfl (method_any m.desc _ hl) ?_
  rintro e w2 ⟨v, rfl, hE2, hown⟩
  refine ⟨_, rfl, ?_⟩
  replace hE := hE.then_ hE2
  replace hB := hB.ext hE2
  repeat (first | refine WL1 rfl ?_ | refine WLe rfl rfl ?_ | refine W_region ?_ | refine WL2 inf rfl ?_ | refine WL_ld inf rfl rfl rfl rfl (Blk.cell (by assumption) rfl) ?_)
  refine WL_callq rfl rfl rfl rfl rfl enters_mname rfl (fun _ => mname_any m.name _ hn) ?_
  repeat (first | refine WL1 rfl ?_ | refine WLe rfl rfl ?_ | refine W_region ?_ | refine WL2 inf rfl ?_ | refine WL_ld inf rfl rfl rfl rfl (Blk.cell (by assumption) rfl) ?_)
  refine W_cond rfl rfl (fun hb => ?_) (fun hb => ?_)
  · refine Wg rfl (W_region ?_)
    repeat (first | refine WL1 rfl ?_ | refine WLe rfl rfl ?_ | refine W_region ?_ | refine WL2 inf rfl ?_ | refine WL_ld inf rfl rfl rfl rfl (Blk.cell (by assumption) rfl) ?_)
    refine W_ret1 rfl rfl rfl ⟨ret_bool ?_, hE⟩
    unfold namedM
    rw [if_pos hb]
  · refine Wg rfl (W_region ?_)
    repeat (first | refine WL1 rfl ?_ | refine WLe rfl rfl ?_ | refine W_region ?_ | refine WL2 inf rfl ?_ | refine WL_ld inf rfl rfl rfl rfl (Blk.cell (by assumption) rfl) ?_)
    refine W_cond rfl rfl (fun hb2 => ?_) (fun hb2 => ?_)
    · refine Wg rfl (W_region ?_)
      repeat (first | refine WL1 rfl ?_ | refine WLe rfl rfl ?_ | refine W_region ?_ | refine WL2 inf rfl ?_ | refine WL_ld inf rfl rfl rfl rfl (Blk.cell (by assumption) rfl) ?_)
      refine W_ret1 rfl rfl rfl ⟨ret_bool ?_, hE⟩
      unfold namedM
      rw [if_neg (by rw [hb]; simp), if_pos (c := (m.name == clinit_) = true) hb2]
      rfl
    · refine Wg rfl (W_region ?_)
      repeat (first | refine WL1 rfl ?_ | refine WLe rfl rfl ?_ | refine W_region ?_ | refine WL2 inf rfl ?_ | refine WL_ld inf rfl rfl rfl rfl (Blk.cell (by assumption) rfl) ?_)
      refine W_cond rfl rfl (fun hb3 => ?_) (fun hb3 => ?_)
      · refine Wg rfl (W_region ?_)
        repeat (first | refine WL1 rfl ?_ | refine WLe rfl rfl ?_ | refine W_region ?_ | refine WL2 inf rfl ?_ | refine WL_ld inf rfl rfl rfl rfl (Blk.cell (by assumption) rfl) ?_)
        refine W_ret1 rfl rfl rfl ⟨ret_bool ?_, hE⟩
        unfold namedM
        rw [if_neg (by rw [hb]; simp), if_neg (by rw [bl_mk] at hb2; intro e; rw [show (m.name == clinit_) = false from hb2] at e; cases e), if_pos (c := (m.name == init_) = true) hb3]
        rfl
      · refine Wg rfl (W_region ?_)
        repeat (first | refine WL1 rfl ?_ | refine WLe rfl rfl ?_ | refine W_region ?_ | refine WL2 inf rfl ?_ | refine WL_ld inf rfl rfl rfl rfl (Blk.cell (by assumption) rfl) ?_)
        refine W_ret1 rfl rfl rfl ⟨ret_bool ?_, hE⟩
        unfold namedM
        rw [if_neg (by rw [hb]; simp), if_neg (by rw [bl_mk] at hb2; intro e; rw [show (m.name == clinit_) = false from hb2] at e; cases e), if_neg (by rw [bl_mk] at hb3; intro e; rw [show (m.name == init_) = false from hb3] at e; cases e)]
def limitedM (m : Mth) : Bool := rngB m.stack 0 20 && rngB m.locals 0 20 && decide (m.code.length ≤ 200) && decide (m.hand.length ≤ 20)
theorem enters_limited : Enters Tryz.prog 119 := enters_of Tryz.func119 (by kernel_rfl) rfl
theorem limited_any (m : Mth) (A D : Option Addr) (c d : Nat) (w : World) : Calls Tryz.prog 119 #[.agg (Mth.cs m (.slice A m.code.length c) (.slice D m.hand.length d)).toArray] w fun e w' => e = .returned (.bool (limitedM m)) ∧ Ext w w' := by
  refine calls_W (args := [.agg (Mth.cs m (.slice A m.code.length c) (.slice D m.hand.length d)).toArray]) Tryz.func119 rfl rfl rfl ?_
  refine Wg rfl (W_region ?_)
  refine WL_box (cs := Mth.cs m (.slice A m.code.length c) (.slice D m.hand.length d)) rfl rfl rfl rfl rfl ?_
  rintro g w1 hg hB hE
  repeat (first | refine WL1 rfl ?_ | refine WLe rfl rfl ?_ | refine W_region ?_ | refine WL2 inf rfl ?_ | refine WL_ld inf rfl rfl rfl rfl (Blk.cell (by assumption) rfl) ?_)
  refine WL_callq rfl rfl rfl rfl rfl enters_cwithin rfl (fun _ => cwithin_any m.stack _ _ _) ?_
  repeat (first | refine WL1 rfl ?_ | refine WLe rfl rfl ?_ | refine W_region ?_ | refine WL2 inf rfl ?_ | refine WL_ld inf rfl rfl rfl rfl (Blk.cell (by assumption) rfl) ?_)
  refine WL_callq rfl rfl rfl rfl rfl enters_cwithin rfl (fun _ => cwithin_any m.locals _ _ _) ?_
  repeat (first | refine WL1 rfl ?_ | refine WLe rfl rfl ?_ | refine W_region ?_ | refine WL2 inf rfl ?_ | refine WL_ld inf rfl rfl rfl rfl (Blk.cell (by assumption) rfl) ?_)
  refine W_ret1 rfl rfl rfl ⟨ret_bool ?_, hE⟩
  unfold limitedM
  rw [show decide ((m.code.length : Int) ≤ 200) = decide (m.code.length ≤ 200) by simp; omega, show decide ((m.hand.length : Int) ≤ 20) = decide (m.hand.length ≤ 20) by simp; omega]
def handlerE (h : Hnd) (len : Nat) : Int :=
  if decide (h.from_ < 0) || decide (h.from_ ≥ h.to_) || decide (h.to_ > len) || !rngB h.at_ 0 (len - 1) then 4
  else if !h.cls.isEmpty && !nameB h.cls then 6 else 0
theorem enters_handler : Enters Tryz.prog 122 := enters_of Tryz.func122 (by kernel_rfl) rfl
theorem handler_any (h : Hnd) (len : Nat) (w : World) (hl : Len h.cls) (hn : len ≤ 9223372036854775807) : Calls Tryz.prog 122 #[.agg (Hnd.cs h).toArray, .int .i64 len] w fun e w' => e = .returned (.int .i64 (handlerE h len)) ∧ Ext w w' := by
  refine calls_W (args := [.agg (Hnd.cs h).toArray, .int .i64 len]) Tryz.func122 rfl rfl rfl ?_
  refine Wg rfl (W_region ?_)
  refine WL_box (cs := Hnd.cs h) rfl rfl rfl rfl rfl ?_
  rintro g w1 hg hB hE
  repeat (first | refine WL1 rfl ?_ | refine WLe rfl rfl ?_ | refine W_region ?_ | refine WL2 inf rfl ?_ | refine WL_ld inf rfl rfl rfl rfl (Blk.cell (by assumption) rfl) ?_)
  refine WL_sub rfl rfl rfl rfl rfl rfl rfl (fun _ => by omega) ?_
  refine WL_callq rfl rfl rfl rfl rfl enters_cwithin rfl (fun _ => cwithin_any h.at_ _ _ _) ?_
  repeat (first | refine WL1 rfl ?_ | refine WLe rfl rfl ?_ | refine W_region ?_ | refine WL2 inf rfl ?_ | refine WL_ld inf rfl rfl rfl rfl (Blk.cell (by assumption) rfl) ?_)
  refine W_cond rfl rfl (fun hb => ?_) (fun hb => ?_)
  · refine Wg rfl (W_region ?_)
    repeat (first | refine WL1 rfl ?_ | refine WLe rfl rfl ?_ | refine W_region ?_ | refine WL2 inf rfl ?_ | refine WL_ld inf rfl rfl rfl rfl (Blk.cell (by assumption) rfl) ?_)
    refine W_ret1 rfl rfl rfl ⟨ret_int ?_, hE⟩
    unfold handlerE
    rw [if_pos hb]
  · refine Wg rfl (W_region ?_)
    repeat (first | refine WL1 rfl ?_ | refine WLe rfl rfl ?_ | refine W_region ?_ | refine WL2 inf rfl ?_ | refine WL_ld inf rfl rfl rfl rfl (Blk.cell (by assumption) rfl) ?_)
    refine WL_callq rfl rfl rfl rfl rfl enters_name rfl (fun _ => name_any h.cls _ hl) ?_
    repeat (first | refine WL1 rfl ?_ | refine WLe rfl rfl ?_ | refine W_region ?_ | refine WL2 inf rfl ?_ | refine WL_ld inf rfl rfl rfl rfl (Blk.cell (by assumption) rfl) ?_)
    refine W_cond rfl rfl (fun hb2 => ?_) (fun hb2 => ?_)
    · refine Wg rfl (W_region ?_)
      repeat (first | refine WL1 rfl ?_ | refine WLe rfl rfl ?_ | refine W_region ?_ | refine WL2 inf rfl ?_ | refine WL_ld inf rfl rfl rfl rfl (Blk.cell (by assumption) rfl) ?_)
      refine W_ret1 rfl rfl rfl ⟨ret_int ?_, hE⟩
      unfold handlerE
      rw [bl_mk, isEmpty_bl] at hb2
      rw [if_neg (by rw [hb]; simp), if_pos hb2]
    · refine Wg rfl (W_region ?_)
      repeat (first | refine WL1 rfl ?_ | refine WLe rfl rfl ?_ | refine W_region ?_ | refine WL2 inf rfl ?_ | refine WL_ld inf rfl rfl rfl rfl (Blk.cell (by assumption) rfl) ?_)
      refine W_ret1 rfl rfl rfl ⟨ret_int ?_, hE⟩
      unfold handlerE
      rw [bl_mk, isEmpty_bl] at hb2
      rw [if_neg (by rw [hb]; simp), if_neg (by rw [hb2]; simp)]
/-- The first that is not zero. -/
def firstE : List Int → Int
  | [] => 0
  | x :: r => if x == 0 then firstE r else x
theorem firstE_take {α : Type} (f : α → Int) : ∀ (xs : List α) (k : Nat) (x : α), xs[k]? = some x → (∀ j y, j < k → xs[j]? = some y → f y = 0) → f x ≠ 0 → ∀ r, firstE (xs.map f ++ r) = f x
  | [], _, _, h, _, _, _ => by simp at h
  | y :: ys, 0, x, h, _, hx, r => by simp at h; subst h; simp [firstE, hx]
  | y :: ys, k + 1, x, h, hn, hx, r => by
    have h0 := hn 0 y (by omega) rfl
    have := firstE_take f ys k x (by simpa using h) (fun j z hj hz => hn (j + 1) z (by omega) (by simpa using hz)) hx r
    simp [firstE, h0, this]
theorem firstE_none {α : Type} (f : α → Int) : ∀ (xs : List α), (∀ j y, j < xs.length → xs[j]? = some y → f y = 0) → ∀ r, firstE (xs.map f ++ r) = firstE r
  | [], _, _ => rfl
  | y :: ys, hn, r => by
    have h0 := hn 0 y (by simp) rfl
    have := firstE_none f ys (fun j z hj hz => hn (j + 1) z (by simp; omega) (by simpa using hz)) r
    simp [firstE, h0, this]
def methodE (m : Mth) : Int :=
  if namedM m = false then 6
  else if limitedM m = false then 5
  else if (m.abst && (m.stat || !(m.stack == 0 && m.locals == 0 && m.code.isEmpty && m.hand.isEmpty))) || (!m.abst && m.code.isEmpty) then 7
  else if m.abst then 0
  else if m.locals < leastM m then 4
  else firstE (m.code.map (fun x => checkI x m.code.length m.locals) ++ m.hand.map (fun h => handlerE h m.code.length))
theorem enters_cmethod : Enters Tryz.prog 84 := enters_of Tryz.func84 (by kernel_rfl) rfl
theorem len0 {α : Type} (l : List α) : ((l.length : Int) == 0) = l.isEmpty := by cases l <;> simp; omega
set_option maxRecDepth 100000 in
set_option maxHeartbeats 4000000 in
theorem cmethod_any {B : Nat → Prop} (m : Mth) (cv hv : Value) (w : World) (hm : MthR B w m (Mth.cs m cv hv)) : Calls Tryz.prog 84 #[.agg (Mth.cs m cv hv).toArray] w fun e w' => e = .returned (.int .i64 (methodE m)) ∧ Ext w w' := by
  obtain ⟨c', h', heq, hl1, hl2, hsc, hsh⟩ := hm
  obtain ⟨rfl, rfl⟩ : cv = c' ∧ hv = h' := by simp only [Mth.cs, List.cons.injEq, and_true, true_and] at heq; exact heq
  obtain ⟨A, c, rfl, hc1, hc2, hrc⟩ := hsc
  obtain ⟨D, d, rfl, hd1, hd2, hrd⟩ := hsh
  have hle1 : m.code.length ≤ 9223372036854775807 := by simp only [maxLen] at hc2; omega
  have hle2 : m.hand.length ≤ 9223372036854775807 := by simp only [maxLen] at hd2; omega
  refine calls_W (args := [.agg (Mth.cs m (.slice A m.code.length c) (.slice D m.hand.length d)).toArray]) Tryz.func84 rfl rfl rfl ?_
  refine Wg rfl (W_region ?_)
  refine WL_box (cs := Mth.cs m (.slice A m.code.length c) (.slice D m.hand.length d)) rfl rfl rfl rfl rfl ?_
  rintro g w1 hg hB hE
  repeat (first | refine WL1 rfl ?_ | refine WLe rfl rfl ?_ | refine W_region ?_ | refine WL2 inf rfl ?_ | refine WL_ld inf rfl rfl rfl rfl (Blk.cell (by assumption) rfl) ?_)
  refine WL_lda inf (cs := Mth.cs m (.slice A m.code.length c) (.slice D m.hand.length d)) rfl rfl rfl rfl hB.cells ?_
  refine WL_call rfl rfl rfl rfl rfl enters_cnamed rfl (cnamed_any m _ _ _ hl1 hl2) ?_
  rintro e w2 ⟨rfl, hE2⟩
  refine ⟨_, rfl, ?_⟩
  replace hE := hE.then_ hE2
  replace hB := hB.ext hE2
  repeat (first | refine WL1 rfl ?_ | refine WLe rfl rfl ?_ | refine W_region ?_ | refine WL2 inf rfl ?_ | refine WL_ld inf rfl rfl rfl rfl (Blk.cell (by assumption) rfl) ?_)
  refine W_cond rfl rfl (fun hb => ?_) (fun hb => ?_)
  · refine Wg rfl (W_region ?_)
    repeat (first | refine WL1 rfl ?_ | refine WLe rfl rfl ?_ | refine W_region ?_ | refine WL2 inf rfl ?_ | refine WL_ld inf rfl rfl rfl rfl (Blk.cell (by assumption) rfl) ?_)
    refine W_ret1 rfl rfl rfl ⟨ret_int ?_, hE⟩
    unfold methodE
    rw [if_pos (by simpa using hb)]
  have hb1 : ¬ namedM m = false := by simpa using hb
  refine Wg rfl (W_region ?_)
  refine WL_lda inf (cs := Mth.cs m (.slice A m.code.length c) (.slice D m.hand.length d)) rfl rfl rfl rfl hB.cells ?_
  refine WL_call rfl rfl rfl rfl rfl enters_limited rfl (limited_any m _ _ _ _ _) ?_
  rintro e w3 ⟨rfl, hE3⟩
  refine ⟨_, rfl, ?_⟩
  replace hE := hE.then_ hE3
  replace hB := hB.ext hE3
  repeat (first | refine WL1 rfl ?_ | refine WLe rfl rfl ?_ | refine W_region ?_ | refine WL2 inf rfl ?_ | refine WL_ld inf rfl rfl rfl rfl (Blk.cell (by assumption) rfl) ?_)
  refine W_cond rfl rfl (fun hb => ?_) (fun hb => ?_)
  · refine Wg rfl (W_region ?_)
    repeat (first | refine WL1 rfl ?_ | refine WLe rfl rfl ?_ | refine W_region ?_ | refine WL2 inf rfl ?_ | refine WL_ld inf rfl rfl rfl rfl (Blk.cell (by assumption) rfl) ?_)
    refine W_ret1 rfl rfl rfl ⟨ret_int ?_, hE⟩
    unfold methodE
    rw [if_neg hb1, if_pos (by simpa using hb)]
  have hb2 : ¬ limitedM m = false := by simpa using hb
  clear hb
  have hbad : ∀ b : Bool, ((m.abst && (m.stat || !(m.stack == 0 && m.locals == 0 && m.code.isEmpty && m.hand.isEmpty))) || (!m.abst && m.code.isEmpty)) = b → methodE m = if b = true then 7 else if m.abst then 0 else if m.locals < leastM m then 4 else firstE (m.code.map (fun x => checkI x m.code.length m.locals) ++ m.hand.map (fun h => handlerE h m.code.length)) := fun b h => by
    subst h
    unfold methodE
    rw [if_neg hb1, if_neg hb2]
  refine Wg rfl (W_region ?_)
  repeat (first | refine WL1 rfl ?_ | refine WLe rfl rfl ?_ | refine W_region ?_ | refine WL2 inf rfl ?_ | refine WL_ld inf rfl rfl rfl rfl (Blk.cell (by assumption) rfl) ?_)
  refine W_cut (fun b : Bool => [(1, [], .pointer (some ⟨g, 0, none⟩)), (38, [], .bool b)]) (fun b W => Ext w W ∧ Blk W g 86 (Mth.cs m (.slice A m.code.length c) (.slice D m.hand.length d)) ∧ methodE m = if b = true then 7 else if m.abst then 0 else if m.locals < leastM m then 4 else firstE (m.code.map (fun x => checkI x m.code.length m.locals) ++ m.hand.map (fun h => handlerE h m.code.length))) ?_ ?_
  · refine W_cond rfl rfl (fun hb => ?_) (fun hb => ?_)
    · refine Wm rfl true ⟨hE, hB, hbad _ ?_⟩ rfl ⟨rfl, ?_, trivial⟩
      · rw [len0, len0] at hb
        rw [hb]; rfl
      · rw [← hb]; rfl
    · refine Wg rfl (W_region ?_)
      repeat (first | refine WL1 rfl ?_ | refine WLe rfl rfl ?_ | refine W_region ?_ | refine WL2 inf rfl ?_ | refine WL_ld inf rfl rfl rfl rfl (Blk.cell (by assumption) rfl) ?_)
      refine WLm rfl _ ⟨hE, hB, hbad _ rfl⟩ rfl ⟨rfl, ?_, trivial⟩
      rw [len0, len0] at hb
      rw [hb, Bool.false_or, ← len0]
      rfl
  clear hE hB hbad
  rintro b W ⟨hE, hB, hbad⟩
  refine W_cond rfl rfl (fun hb => ?_) (fun hb => ?_)
  · rw [if_pos hb] at hbad
    refine Wg rfl (W_region ?_)
    repeat (first | refine WL1 rfl ?_ | refine WLe rfl rfl ?_ | refine W_region ?_ | refine WL2 inf rfl ?_ | refine WL_ld inf rfl rfl rfl rfl (Blk.cell (by assumption) rfl) ?_)
    exact W_ret1 rfl rfl rfl ⟨ret_int hbad.symm, hE⟩
  rw [if_neg (by rw [hb]; simp)] at hbad
  refine Wg rfl (W_region ?_)
  repeat (first | refine WL1 rfl ?_ | refine WLe rfl rfl ?_ | refine W_region ?_ | refine WL2 inf rfl ?_ | refine WL_ld inf rfl rfl rfl rfl (Blk.cell (by assumption) rfl) ?_)
  refine W_cond rfl rfl (fun hb => ?_) (fun hb => ?_)
  · rw [if_pos hb] at hbad
    refine Wg rfl (W_region ?_)
    repeat (first | refine WL1 rfl ?_ | refine WLe rfl rfl ?_ | refine W_region ?_ | refine WL2 inf rfl ?_ | refine WL_ld inf rfl rfl rfl rfl (Blk.cell (by assumption) rfl) ?_)
    exact W_ret1 rfl rfl rfl ⟨ret_int hbad.symm, hE⟩
  rw [if_neg (by rw [hb]; simp)] at hbad
  have hBd : Blk W.drew g 86 (Mth.cs m (.slice A m.code.length c) (.slice D m.hand.length d)) := hB
  refine Wg rfl (W_draws (fun W' => Ext W.drew W') [] mixed_ ?_)
  refine WDp 0 rfl (by first | exact stepV_yl _ rfl | exact stepI_yl _ inf rfl) (by kernel_rfl) ?_
  refine WDq 1 rfl (yl_ld inf rfl rfl rfl rfl (fun W' hS => (hBd.ext hS).cell rfl)) (Ext.rfl' _) (by kernel_rfl) ?_
  refine WDq 2 rfl (yl_lda inf (cs := Mth.cs m (.slice A m.code.length c) (.slice D m.hand.length d)) rfl rfl rfl rfl (fun W' hS => (hBd.ext hS).cells)) (Ext.rfl' _) (by kernel_rfl) ?_
  refine WDl 3 rfl (by kernel_rfl) (WL_call rfl rfl rfl rfl rfl enters_least rfl (least_any m _ _ _ hl2) ?_)
  rintro e W1 ⟨rfl, hE1⟩
  refine ⟨_, rfl, WDc (fun h => h.then_ hE1) ?_⟩
  refine WDp 4 rfl (by first | exact stepV_yl _ rfl | exact stepI_yl _ inf rfl) (by kernel_rfl) ?_
  refine WDp 5 rfl (by first | exact stepV_yl _ rfl | exact stepI_yl _ inf rfl) (by kernel_rfl) ?_
  refine WDe (by kernel_rfl) ?_
  replace hE := (hE.then_ (Ext.drew_ W)).then_ hE1
  replace hB := hBd.ext hE1
  clear hBd hE1
  repeat (first | refine WL1 rfl ?_ | refine WLe rfl rfl ?_ | refine W_region ?_ | refine WL2 inf rfl ?_ | refine WL_ld inf rfl rfl rfl rfl (Blk.cell (by assumption) rfl) ?_)
  refine W_cond rfl rfl (fun hb => ?_) (fun hb => ?_)
  · rw [if_pos (by simpa using hb)] at hbad
    refine Wg rfl (W_region ?_)
    repeat (first | refine WL1 rfl ?_ | refine WLe rfl rfl ?_ | refine W_region ?_ | refine WL2 inf rfl ?_ | refine WL_ld inf rfl rfl rfl rfl (Blk.cell (by assumption) rfl) ?_)
    exact W_ret1 rfl rfl rfl ⟨ret_int hbad.symm, hE⟩
  rw [if_neg (by simpa using hb)] at hbad
  clear hb
  refine Wg rfl (W_region ?_)
  repeat (first | refine WL1 rfl ?_ | refine WLe rfl rfl ?_ | refine W_region ?_ | refine WL2 inf rfl ?_ | refine WL_ld inf rfl rfl rfl rfl (Blk.cell (by assumption) rfl) ?_)
  refine W_loop (fun j : Nat => [(1, [], .pointer (some ⟨g, 0, none⟩)), (68, [], .slice A m.code.length c), (69, [], .int .i64 m.code.length), (70, [], .int .i64 j)])
    (fun j W => j ≤ m.code.length ∧ Ext w W ∧ Blk W g 86 (Mth.cs m (.slice A m.code.length c) (.slice D m.hand.length d)) ∧ ∀ i y, i < j → m.code[i]? = some y → checkI y m.code.length m.locals = 0)
    (fun j => m.code.length - j) 0 (fun _ => rfl) ⟨rfl, rfl, rfl, rfl, trivial⟩ ⟨Nat.zero_le _, hE, hB, fun i y h => absurd h (Nat.not_lt_zero i)⟩ ?_
  clear hE hB
  rintro j W ⟨hj, hE, hB, hno⟩
  refine Wg rfl (W_region ?_)
  repeat (first | refine WL1 rfl ?_ | refine WLe rfl rfl ?_ | refine W_region ?_ | refine WL2 inf rfl ?_ | refine WL_ld inf rfl rfl rfl rfl (Blk.cell (by assumption) rfl) ?_)
  refine W_cond rfl rfl (fun hb => ?_) (fun hb => ?_)
  · have hlt : j < m.code.length := by simpa using hb
    have hx : m.code[j]? = some m.code[j] := List.getElem?_eq_getElem hlt
    generalize m.code[j] = x at hx
    obtain ⟨a, cs, rfl, hz, hR, hcs⟩ := hrc.at_ hx
    obtain ⟨rfl, hxo⟩ := hR
    refine Wg rfl (W_region ?_)
    refine WL_ix inf rfl rfl rfl rfl rfl (fun _ => ⟨by omega, by omega⟩) ?_
    refine WL_lda inf (cs := Ins.cs x) rfl rfl rfl rfl (hcs.cells.ext hE) ?_
    refine WL_alloc inf rfl rfl rfl rfl rfl ?_
    rintro g5 w5 hg5 hB5 hE5
    refine WL_sta inf (cs' := Ins.cs x) rfl rfl rfl rfl (Ins.one x) rfl hB5 rfl ?_
    rintro w6 hB6 u6
    have hE6 : Ext W w6 := u6.ext hE5 (by omega)
    replace hB := hB.ext hE6
    repeat (first | refine WL1 rfl ?_ | refine WLe rfl rfl ?_ | refine W_region ?_ | refine WL2 inf rfl ?_ | refine WL_ld inf rfl rfl rfl rfl (Blk.cell (by assumption) rfl) ?_)
    refine WL_lda inf (cs := Ins.cs x) rfl rfl rfl rfl hB6.cells ?_
    repeat (first | refine WL1 rfl ?_ | refine WLe rfl rfl ?_ | refine W_region ?_ | refine WL2 inf rfl ?_ | refine WL_ld inf rfl rfl rfl rfl (Blk.cell (by assumption) rfl) ?_)
    refine WL_call rfl rfl rfl rfl rfl enters_icheck rfl (icheck_any x _ _ _ hxo) ?_
    rintro e w7 ⟨rfl, hE7⟩
    refine ⟨_, rfl, ?_⟩
    replace hB := hB.ext hE7
    replace hE := (hE.then_ hE6).then_ hE7
    repeat (first | refine WL1 rfl ?_ | refine WLe rfl rfl ?_ | refine W_region ?_ | refine WL2 inf rfl ?_ | refine WL_ld inf rfl rfl rfl rfl (Blk.cell (by assumption) rfl) ?_)
    refine W_cond rfl rfl (fun hc => ?_) (fun hc => ?_)
    · refine Wg rfl (W_region ?_)
      repeat (first | refine WL1 rfl ?_ | refine WLe rfl rfl ?_ | refine W_region ?_ | refine WL2 inf rfl ?_ | refine WL_ld inf rfl rfl rfl rfl (Blk.cell (by assumption) rfl) ?_)
      refine W_ret1 rfl rfl rfl ⟨ret_int ?_, hE⟩
      rw [hbad, firstE_take (fun x => checkI x m.code.length m.locals) m.code j x hx hno (by simpa using hc)]
    · refine Wg rfl (W_region ?_)
      refine WL_add rfl rfl rfl rfl rfl rfl rfl (fun _ => by omega) ?_
      repeat (first | refine WL1 rfl ?_ | refine WLe rfl rfl ?_ | refine W_region ?_ | refine WL2 inf rfl ?_ | refine WL_ld inf rfl rfl rfl rfl (Blk.cell (by assumption) rfl) ?_)
      refine WLr rfl (j + 1) (by omega) ⟨hlt, hE, hB, fun i y hi hy => ?_⟩ rfl ⟨rfl, rfl, rfl, rfl, trivial⟩
      rcases Nat.lt_or_eq_of_le (Nat.le_of_lt_succ hi) with h1 | rfl
      · exact hno i y h1 hy
      · rw [hx] at hy; cases hy; simpa using hc
  have hj' : j = m.code.length := by simp at hb; omega
  subst hj'
  rw [firstE_none (fun x => checkI x m.code.length m.locals) m.code hno] at hbad
  refine Wg rfl (W_region ?_)
  repeat (first | refine WL1 rfl ?_ | refine WLe rfl rfl ?_ | refine W_region ?_ | refine WL2 inf rfl ?_ | refine WL_ld inf rfl rfl rfl rfl (Blk.cell (by assumption) rfl) ?_)
  refine W_loop (fun j : Nat => [(1, [], .pointer (some ⟨g, 0, none⟩)), (86, [], .slice D m.hand.length d), (87, [], .int .i64 m.hand.length), (88, [], .int .i64 j)])
    (fun j W => j ≤ m.hand.length ∧ Ext w W ∧ Blk W g 86 (Mth.cs m (.slice A m.code.length c) (.slice D m.hand.length d)) ∧ ∀ i y, i < j → m.hand[i]? = some y → handlerE y m.code.length = 0)
    (fun j => m.hand.length - j) 0 (fun _ => rfl) ⟨rfl, rfl, rfl, rfl, trivial⟩ ⟨Nat.zero_le _, hE, hB, fun i y h => absurd h (Nat.not_lt_zero i)⟩ ?_
  clear hE hB hb hno
  rintro j W ⟨hj, hE, hB, hno⟩
  refine Wg rfl (W_region ?_)
  repeat (first | refine WL1 rfl ?_ | refine WLe rfl rfl ?_ | refine W_region ?_ | refine WL2 inf rfl ?_ | refine WL_ld inf rfl rfl rfl rfl (Blk.cell (by assumption) rfl) ?_)
  refine W_cond rfl rfl (fun hb => ?_) (fun hb => ?_)
  · have hlt : j < m.hand.length := by simpa using hb
    have hx : m.hand[j]? = some m.hand[j] := List.getElem?_eq_getElem hlt
    generalize m.hand[j] = x at hx
    obtain ⟨a, cs, rfl, hz, hR, hcs⟩ := hrd.at_ hx
    obtain ⟨rfl, hxo⟩ := hR
    refine Wg rfl (W_region ?_)
    refine WL_ix inf rfl rfl rfl rfl rfl (fun _ => ⟨by omega, by omega⟩) ?_
    refine WL_lda inf (cs := Hnd.cs x) rfl rfl rfl rfl (hcs.cells.ext hE) ?_
    refine WL_alloc inf rfl rfl rfl rfl rfl ?_
    rintro g5 w5 hg5 hB5 hE5
    refine WL_sta inf (cs' := Hnd.cs x) rfl rfl rfl rfl (Hnd.one x) rfl hB5 rfl ?_
    rintro w6 hB6 u6
    have hE6 : Ext W w6 := u6.ext hE5 (by omega)
    replace hB := hB.ext hE6
    repeat (first | refine WL1 rfl ?_ | refine WLe rfl rfl ?_ | refine W_region ?_ | refine WL2 inf rfl ?_ | refine WL_ld inf rfl rfl rfl rfl (Blk.cell (by assumption) rfl) ?_)
    refine WL_lda inf (cs := Hnd.cs x) rfl rfl rfl rfl hB6.cells ?_
    repeat (first | refine WL1 rfl ?_ | refine WLe rfl rfl ?_ | refine W_region ?_ | refine WL2 inf rfl ?_ | refine WL_ld inf rfl rfl rfl rfl (Blk.cell (by assumption) rfl) ?_)
    refine WL_call rfl rfl rfl rfl rfl enters_handler rfl (handler_any x _ _ hxo hle1) ?_
    rintro e w7 ⟨rfl, hE7⟩
    refine ⟨_, rfl, ?_⟩
    replace hB := hB.ext hE7
    replace hE := (hE.then_ hE6).then_ hE7
    repeat (first | refine WL1 rfl ?_ | refine WLe rfl rfl ?_ | refine W_region ?_ | refine WL2 inf rfl ?_ | refine WL_ld inf rfl rfl rfl rfl (Blk.cell (by assumption) rfl) ?_)
    refine W_cond rfl rfl (fun hc => ?_) (fun hc => ?_)
    · refine Wg rfl (W_region ?_)
      repeat (first | refine WL1 rfl ?_ | refine WLe rfl rfl ?_ | refine W_region ?_ | refine WL2 inf rfl ?_ | refine WL_ld inf rfl rfl rfl rfl (Blk.cell (by assumption) rfl) ?_)
      refine W_ret1 rfl rfl rfl ⟨ret_int ?_, hE⟩
      have := firstE_take (fun h => handlerE h m.code.length) m.hand j x hx hno (by simpa using hc) []
      rw [List.append_nil] at this
      rw [hbad, this]
    · refine Wg rfl (W_region ?_)
      refine WL_add rfl rfl rfl rfl rfl rfl rfl (fun _ => by omega) ?_
      repeat (first | refine WL1 rfl ?_ | refine WLe rfl rfl ?_ | refine W_region ?_ | refine WL2 inf rfl ?_ | refine WL_ld inf rfl rfl rfl rfl (Blk.cell (by assumption) rfl) ?_)
      refine WLr rfl (j + 1) (by omega) ⟨hlt, hE, hB, fun i y hi hy => ?_⟩ rfl ⟨rfl, rfl, rfl, rfl, trivial⟩
      rcases Nat.lt_or_eq_of_le (Nat.le_of_lt_succ hi) with h1 | rfl
      · exact hno i y h1 hy
      · rw [hx] at hy; cases hy; simpa using hc
  have hj' : j = m.hand.length := by simp at hb; omega
  subst hj'
  have := firstE_none (fun h => handlerE h m.code.length) m.hand hno []
  rw [List.append_nil] at this
  refine Wg rfl (W_region ?_)
  repeat (first | refine WL1 rfl ?_ | refine WLe rfl rfl ?_ | refine W_region ?_ | refine WL2 inf rfl ?_ | refine WL_ld inf rfl rfl rfl rfl (Blk.cell (by assumption) rfl) ?_)
  exact W_ret1 rfl rfl rfl ⟨ret_int (by rw [hbad, this]; rfl), hE⟩
end Go.Proofs.YtljcmmmajjmpoaaGreatDoor
