/- desc.Method, desc.Words, desc.Array. -/
import Derived.Test.YtljcmmmajjmpoaaGreatDoorSlices
namespace Go.Proofs.YtljcmmmajjmpoaaGreatDoor
open Go.RowKit Sp

theorem enters_cp : Enters Tryz.prog 149 := enters_of Tryz.func149 (by kernel_rfl) rfl
def cutP (l : L) (c : UInt8) : L := match l with
  | x :: r => if x = c then r else l
  | [] => []
def hasP (l : L) (c : UInt8) : Bool := match l with
  | x :: _ => decide (x = c)
  | [] => false
theorem hasP_eq (l : L) (c : UInt8) : Lib.hasPrefix l [c] = hasP l c := by
  unfold Lib.hasPrefix hasP
  cases l with
  | nil => rfl
  | cons x r =>
    simp only [List.isPrefixOf, Bool.and_true]
    rw [Bool.eq_iff_iff]
    simp only [beq_iff_eq, decide_eq_true_eq]
    exact ⟨fun h => h.symm, fun h => h.symm⟩
theorem cutP_eq (l : L) (c : UInt8) : Lib.trimPrefix l [c] = cutP l c := by
  unfold Lib.trimPrefix
  rw [hasP_eq]
  unfold hasP cutP
  cases l with
  | nil => rfl
  | cons x r => by_cases h : x = c <;> simp [h]
theorem cp_any (l : L) (c : UInt8) (w : World) : Calls Tryz.prog 149 #[.string (mkS l), .string (mkS [c])] w fun e w' => e = .returned (.tuple #[.string (mkS (cutP l c)), .bool (hasP l c)]) ∧ w = w' := by
  have h := Tryz.strings_CutPrefix (mkS l) (mkS [c]) w
  rw [mkS_data, mkS_data, hasP_eq, cutP_eq] at h
  exact h.mono fun _ _ ⟨h1, h2⟩ => ⟨h1, h2.symm⟩
theorem cutP_le (l : L) (c : UInt8) : (cutP l c).length ≤ l.length := by
  unfold cutP
  split
  · split <;> simp
  · simp
theorem nextP_cat (l : L) : (nextP l).1 ++ (nextP l).2 = l := by
  unfold nextP
  split
  · rfl
  · rename_i r h
    obtain ⟨t, rfl⟩ := nextD_suffix l 0 r h
    simp
theorem nextP_none (l : L) : (nextP l).1 = [] ↔ nextD 0 l = none := by
  unfold nextP
  split
  · rename_i h; simp [h]
  · rename_i r h
    have := nextD_lt l 0 r h
    simp [h]
    constructor
    · omega
    · rintro rfl; simp at this
theorem paramsD_le : ∀ (n : Nat) (l : L), (∀ s ∈ (paramsD n l).1, s.length ≤ l.length) ∧ (paramsD n l).2.length ≤ l.length ∧ (paramsD n l).1.length ≤ n
  | 0, l => by simp [paramsD]
  | n + 1, l => by
    unfold paramsD
    split
    · simp
    · rename_i r h
      have hl := nextD_lt l 0 r h
      obtain ⟨h1, h2, h3⟩ := paramsD_le n r
      refine ⟨?_, by simp only; omega, by simp; omega⟩
      intro s hs
      rcases List.mem_cons.1 hs with rfl | hs
      · simp
      · have := h1 s hs; omega
/-- desc.Method. -/
def methodV (l : L) : List L × L × Int := match methodP l with
  | some (ps, res) => (ps, res, 0)
  | none => ([], [], 6)
theorem methodV_eq (l : L) : methodV l = (if hasP l 40 = true ∧ hasP (paramsD 8 (cutP l 40)).2 41 = true ∧ (cutP (paramsD 8 (cutP l 40)).2 41 = [86] ∨ typeB (cutP (paramsD 8 (cutP l 40)).2 41) = true) then ((paramsD 8 (cutP l 40)).1, cutP (paramsD 8 (cutP l 40)).2 41, 0) else ([], [], 6)) := by
  unfold methodV methodP
  cases l with
  | nil => simp [hasP]
  | cons c r =>
    by_cases hc : c = 40
    · subst hc
      simp only [hasP, cutP, if_true]
      cases h : (paramsD 8 r).2 with
      | nil => simp
      | cons d res =>
        by_cases hd : d = 41
        · subst hd
          simp only [if_true, decide_true, true_and]
          by_cases hv : res = [86] ∨ typeB res = true <;> simp [hv]
        · simp [hd]
    · simp [hasP, hc]
def strC (s : L) : List Value := [.string (mkS s)]
theorem strEach (B : Nat → Prop) (w : World) : ∀ (l : List L), (∀ s ∈ l, Len s) → Each (StrR B w) l (l.map strC)
  | [], _ => trivial
  | s :: r, h => ⟨⟨rfl, h s (by simp)⟩, strEach B w r fun t ht => h t (by simp [ht])⟩
theorem enters_method : Enters Tryz.prog 116 := enters_of Tryz.func116 (by kernel_rfl) rfl
theorem method_any (l : L) (w : World) (hs : Len l) :
    Calls Tryz.prog 116 #[.string (mkS l)] w fun e w' => ∃ v, e = .returned (.tuple #[v, .string (mkS (methodV l).2.1), .int .i64 (methodV l).2.2]) ∧ Ext w w' ∧ OwnR w.heap.size 9 1 w' v ((methodV l).1.map strC) := by
  refine calls_W (args := [.string (mkS l)]) Tryz.func116 rfl rfl rfl ?_
  refine Wg rfl (W_region ?_)
  repeat (first | refine WL1 rfl ?_ | refine WLe rfl rfl ?_ | refine W_region ?_)
  refine W_scope 0 (fun x : Value × L × List L => [(2, [], x.1), (5, [], .string (mkS x.2.1)), (6, [], .bool (hasP l 40))])
    (fun x W => Ext w W ∧ OwnR w.heap.size 9 1 W x.1 (x.2.2.map strC) ∧ paramsD 8 (cutP l 40) = (x.2.2 ++ (paramsD (8 - x.2.2.length) x.2.1).1, (paramsD (8 - x.2.2.length) x.2.1).2) ∧ x.2.2.length ≤ 8 ∧ x.2.1.length ≤ l.length) (fun x => 8 - x.2.2.length) rfl ?_ ?_
  · rintro ⟨v, r, ps⟩ W ⟨he, hown, hP, hn, hr⟩
    dsimp only at hown hP hn hr ⊢
    obtain ⟨A, c, hv⟩ := hown.val
    rw [List.length_map] at hv
    have hlen : Len r := Nat.le_trans hr hs
    refine Wg rfl (W_region ?_)
    repeat (first | refine WL1 rfl ?_ | refine WLe rfl rfl ?_ | refine W_region ?_)
    refine WL_callq rfl rfl rfl rfl rfl enters_next rfl (fun _ => next_any r _ hlen) ?_
    repeat (first | refine WL1 rfl ?_ | refine WLe rfl rfl ?_ | refine W_region ?_)
    subst hv
    refine WL2 inf rfl ?_
    repeat (first | refine WL1 rfl ?_ | refine WLe rfl rfl ?_ | refine W_region ?_)
    have ht : (bl (mkS (nextP r).1) == bl ⟨#[]⟩) = true ↔ nextD 0 r = none := by rw [bl_mk, isEmpty_bl, List.isEmpty_iff, nextP_none]
    refine W_cond rfl rfl (fun hb => ?_) (fun hb => ?_)
    · obtain ⟨hb1, hb2⟩ : nextD 0 r ≠ none ∧ ps.length < 8 := by
        simp only [Bool.and_eq_true, Bool.not_eq_true', decide_eq_true_eq] at hb
        refine ⟨fun h => ?_, by omega⟩
        rw [ht.2 h] at hb
        cases hb.1
      obtain ⟨r', hr'⟩ := Option.ne_none_iff_exists'.1 hb1
      have hlt := nextD_lt r 0 r' hr'
      refine Wg rfl (W_region ?_)
      repeat (first | refine WL1 rfl ?_ | refine WLe rfl rfl ?_ | refine W_region ?_)
      refine WL_bsl (cs := strC (nextP r).1) rfl rfl rfl rfl rfl (bs40_1 _ _) ?_
      rintro g W1 rfl hB hE
      refine WL_app ei (ncs := [strC (nextP r).1]) rfl rfl rfl rfl rfl rfl (hown.ext hE) hB.cells rfl (by simp [strC]) (by simp [strC, Value.oneCell']) (by rw [List.length_map]; omega) (Nat.le_trans he.size hE.size) ?_
      rintro v' W2 hown' hg hrow
      refine WL1 rfl ?_
      refine WL_nil (WN_seq ?_)
      refine Wr rfl (v', r', ps ++ [(nextP r).1]) (by simp; omega) ⟨?_, by simpa using hown', ?_, by simp; omega, by simp; omega⟩ rfl ⟨rfl, ?_, rfl, trivial⟩
      · exact grown_ext hg (he.then_ hE) fun k hk => (hown.own k hk).1
      · rw [hP]
        have h8 : 8 - ps.length = (8 - (ps ++ [(nextP r).1]).length) + 1 := by simp; omega
        conv => lhs; rw [h8, paramsD, hr']
        have hq : (nextP r).1 = r.take (r.length - r'.length) := by rw [next_some hr']
        simp [hq]
      · show getG _ 5 = some ([], Value.string (mkS r'))
        rw [show (nextP r) = _ from next_some hr']
        rfl
    · have hX : paramsD 8 (cutP l 40) = (ps, r) := by
        rw [hP]
        simp only [Bool.and_eq_false_iff, Bool.not_eq_false', decide_eq_false_iff_not] at hb
        rcases hb with hb | hb
        · have h0 := ht.1 hb
          cases h8 : 8 - ps.length with
          | zero => simp [paramsD]
          | succ m => simp [paramsD, h0]
        · have : 8 - ps.length = 0 := by omega
          rw [this]; simp [paramsD]
      have hcl := cutP_le r 41
      refine Wg rfl (W_region ?_)
      repeat (first | refine WL1 rfl ?_ | refine WLe rfl rfl ?_ | refine W_region ?_)
      refine WL_cat rfl rfl rfl rfl (fun _ => by rw [← List.length_append, nextP_cat]; exact hlen) (nextP_cat r) ?_
      refine WL_callq rfl rfl rfl rfl rfl enters_cp rfl (fun _ => cp_any r 41 _) ?_
      repeat (first | refine WL1 rfl ?_ | refine WLe rfl rfl ?_ | refine W_region ?_)
      refine WL_callq rfl rfl rfl rfl rfl enters_type rfl (fun _ => type_any (cutP r 41) _ (by unfold Len at hlen ⊢; omega)) ?_
      repeat (first | refine WL1 rfl ?_ | refine WLe rfl rfl ?_ | refine W_region ?_)
      have hmv := methodV_eq l
      rw [hX] at hmv
      dsimp only at hmv
      have hV : (bl (mkS (cutP r 41)) == bl ⟨#[86]⟩) = decide (cutP r 41 = [86]) := by
        rw [bl_mk, Bool.eq_iff_iff]; simp
      refine W_cond rfl rfl (fun hb => ?_) (fun hb => ?_)
      · rw [hV] at hb
        rw [if_neg (by
          rintro ⟨h1, h2, h3⟩
          simp [h1, h2] at hb
          rcases h3 with h3 | h3
          · exact hb.1 h3
          · rw [h3] at hb; cases hb.2)] at hmv
        refine Wg rfl (W_region ?_)
        repeat (first | refine WL1 rfl ?_ | refine WLe rfl rfl ?_ | refine W_region ?_)
        refine W_retL [.slice none 0 0, .string (mkS []), .int .i64 6] rfl rfl ⟨rfl, rfl, rfl, trivial⟩ ⟨.slice none 0 0, ?_, he, ?_⟩
        · rw [hmv]; rfl
        · rw [hmv]; exact OwnR.nil _ _ _ _
      · rw [hV] at hb
        rw [if_pos (by
          simp only [Bool.or_eq_false_iff, Bool.not_eq_false', Bool.and_eq_false_iff, decide_eq_true_eq] at hb
          exact ⟨hb.1.1, hb.1.2, hb.2⟩)] at hmv
        refine Wg rfl (W_region ?_)
        repeat (first | refine WL1 rfl ?_ | refine WLe rfl rfl ?_ | refine W_region ?_)
        refine W_retL [.slice A ps.length c, .string (mkS (cutP r 41)), .int .i64 0] rfl rfl ⟨rfl, rfl, rfl, trivial⟩ ⟨.slice A ps.length c, ?_, he, ?_⟩
        · rw [hmv]; rfl
        · rw [hmv]; exact hown
  · intro H
    refine Wg rfl (W_region ?_)
    repeat (first | refine WL1 rfl ?_ | refine WLe rfl rfl ?_ | refine W_region ?_)
    refine WL_callq rfl rfl rfl rfl rfl enters_cp rfl (fun _ => cp_any l 40 _) ?_
    refine WL1 rfl (WL1 rfl (WL1 rfl (WL1 rfl (WL1 rfl ?_))))
    refine WLe rfl rfl (W_region (WL1 rfl ?_))
    refine WLlab rfl _ rfl ?_ (H (.slice none 0 0, cutP l 40, []) w ⟨Ext.rfl' w, OwnR.nil _ _ _ _, rfl, Nat.zero_le _, cutP_le l 40⟩)
    exact ⟨rfl, rfl, rfl, trivial⟩
theorem enters_words : Enters Tryz.prog 156 := enters_of Tryz.func156 (by kernel_rfl) rfl
theorem words_any (A : Option Addr) (n c : Nat) (w : World) : Calls Tryz.prog 156 #[.slice A n c] w fun e w' => e = .returned (.int .i64 (n : Nat)) ∧ w = w' := by
  refine calls_W (args := [.slice A n c]) Tryz.func156 rfl rfl rfl ?_
  refine Wg rfl (W_region ?_)
  repeat (first | refine WL1 rfl ?_ | refine WLe rfl rfl ?_ | refine W_region ?_)
  refine WL2 inf rfl ?_
  repeat (first | refine WL1 rfl ?_ | refine WLe rfl rfl ?_ | refine W_region ?_)
  exact W_ret1 rfl rfl rfl ⟨rfl, rfl⟩
theorem enters_array : Enters Tryz.prog 190 := enters_of Tryz.func190 (by kernel_rfl) rfl
def arrayS (l : L) : L := if typeB (91 :: l) then 91 :: l else []
theorem array_any (l : L) (w : World) (hs : l.length < 9223372036854775807) : Calls Tryz.prog 190 #[.string (mkS l)] w fun e w' => e = .returned (.string (mkS (arrayS l))) ∧ w = w' := by
  refine calls_W (args := [.string (mkS l)]) Tryz.func190 rfl rfl rfl ?_
  refine Wg rfl (W_region ?_)
  repeat (first | refine WL1 rfl ?_ | refine WLe rfl rfl ?_ | refine W_region ?_)
  refine WL_cat (a := [91]) rfl rfl rfl rfl (fun _ => by simp; omega) (r := 91 :: l) rfl ?_
  refine WL_callq rfl rfl rfl rfl rfl enters_type rfl (fun _ => type_any (91 :: l) _ (by unfold Len; simp; omega)) ?_
  repeat (first | refine WL1 rfl ?_ | refine WLe rfl rfl ?_ | refine W_region ?_)
  refine W_cond rfl rfl (fun hb => ?_) (fun hb => ?_)
  · refine Wg rfl (W_region ?_)
    repeat (first | refine WL1 rfl ?_ | refine WLe rfl rfl ?_ | refine W_region ?_)
    refine W_ret1 rfl rfl rfl ⟨?_, rfl⟩
    unfold arrayS
    rw [if_neg (by simpa using hb)]
    rfl
  · refine Wg rfl (W_region ?_)
    repeat (first | refine WL1 rfl ?_ | refine WLe rfl rfl ?_ | refine W_region ?_)
    refine WL_cat (a := [91]) rfl rfl rfl rfl (fun _ => by simp; omega) (r := 91 :: l) rfl ?_
    repeat (first | refine WL1 rfl ?_ | refine WLe rfl rfl ?_ | refine W_region ?_)
    refine W_ret1 rfl rfl rfl ⟨?_, rfl⟩
    unfold arrayS
    rw [if_pos (by simpa using hb)]
end Go.Proofs.YtljcmmmajjmpoaaGreatDoor
