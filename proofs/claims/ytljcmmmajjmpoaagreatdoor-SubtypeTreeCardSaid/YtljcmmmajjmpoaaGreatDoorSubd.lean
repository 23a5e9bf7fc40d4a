/- lanternalike.Total; lanternlaw7: small, awake. -/
import Derived.Test.YtljcmmmajjmpoaaGreatDoorSubc
import Derived.Test.YtljcmmmajjmpoaaGreatDoorSmall
import Derived.Test.YtljcmmmajjmpoaaGreatDoorAlike
namespace Go.Proofs.YtljcmmmajjmpoaaGreatDoor
open Go.RowKit Sp

theorem sumF_ge : ∀ (xs : List Int) (n : Int), 0 ≤ n → (∀ x ∈ xs, 0 ≤ x) → 0 ≤ sumF n xs
  | [], n, h, _ => h
  | x :: r, n, h, hx => by
    unfold sumF
    split
    · omega
    · have := hx x (by simp)
      exact sumF_ge r (n + x) (by omega) fun y hy => hx y (by simp [hy])
theorem sumF_le : ∀ (xs : List Int) (n : Int), n ≤ 1099511627776 → sumF n xs ≤ 1099511627776
  | [], n, h => h
  | x :: r, n, h => by
    unfold sumF
    split
    · omega
    · rename_i hc
      simp at hc
      exact sumF_le r (n + x) (by omega)
/-- How many bytes texts have, one more for each; it stops where a bound is passed. -/
def totF (top : Int) : Int → List L → Int
  | n, [] => n
  | n, x :: r => if decide (n ≤ top) then totF top (sumF n [(x.length : Int), 1]) r else n
theorem enters_total : Enters Tryz.prog 27 := enters_of Tryz.func27 (by kernel_rfl) rfl
set_option maxRecDepth 100000 in
theorem total_any {B : Nat → Prop} (xs : List L) (top : Int) (v : Value) (w : World) (hsl : Sl StrR 1 B w v xs) :
    Calls Tryz.prog 27 #[v, .int .i64 top] w fun e w' => e = .returned (.int .i64 (totF top 0 xs)) ∧ Ext w w' := by
  have hle := hsl.len
  obtain ⟨A, c, rfl, hlc, _, hrow⟩ := hsl
  refine calls_W (args := [.slice A xs.length c, .int .i64 top]) Tryz.func27 rfl rfl rfl ?_
  refine Wg rfl (W_region ?_)
  repeat (first | refine WL1 rfl ?_ | refine WLe rfl rfl ?_ | refine W_region ?_ | refine WL2 inf rfl ?_ | refine WL_ld inf rfl rfl rfl rfl (Blk.cell (by assumption) rfl) ?_)
  refine W_loop (fun x : Nat × Int => [(0, [], .slice A xs.length c), (1, [], .int .i64 top), (5, [], .int .i64 x.2), (6, [], .int .i64 x.1)])
    (fun x W => Ext w W ∧ x.1 ≤ xs.length ∧ 0 ≤ x.2 ∧ x.2 ≤ 1099511627776 ∧ totF top 0 xs = totF top x.2 (xs.drop x.1)) (fun x => xs.length - x.1) (0, 0) (fun _ => rfl) ⟨rfl, rfl, rfl, rfl, trivial⟩ ⟨Ext.rfl' w, Nat.zero_le _, by omega, by omega, rfl⟩ ?_
  rintro ⟨k, m⟩ W ⟨hE, hk, hm0, hm1, hS⟩
  dsimp only at hk hm0 hm1 hS ⊢
  refine Wg rfl (W_region ?_)
  repeat (first | refine WL1 rfl ?_ | refine WLe rfl rfl ?_ | refine W_region ?_ | refine WL2 inf rfl ?_ | refine WL_ld inf rfl rfl rfl rfl (Blk.cell (by assumption) rfl) ?_)
  refine W_cond rfl rfl (fun hb => ?_) (fun hb => ?_)
  · have hb' : (decide ((k : Int) < xs.length) && decide (m ≤ top)) = true := hb
    simp only [Bool.and_eq_true, decide_eq_true_eq] at hb'
    have hlt : k < xs.length := by omega
    have hx : xs[k]? = some xs[k] := List.getElem?_eq_getElem hlt
    have hdr : xs.drop k = xs[k] :: xs.drop (k + 1) := List.drop_eq_getElem_cons hlt
    generalize xs[k] = x at hx hdr
    rw [hdr, totF, if_pos (by simpa using hb'.2)] at hS
    obtain ⟨a, cs, rfl, hz, hR, hcs⟩ := hrow.at_ hx
    obtain ⟨rfl, hlx⟩ := hR
    have hsl2 : ∀ y ∈ [(x.length : Int), 1], 0 ≤ y := by simp
    refine Wg rfl (W_region ?_)
    repeat (first | refine WL1 rfl ?_ | refine WLe rfl rfl ?_ | refine W_region ?_ | refine WL2 inf rfl ?_ | refine WL_ld inf rfl rfl rfl rfl (Blk.cell (by assumption) rfl) ?_)
    refine WL_ix inf rfl rfl rfl rfl rfl (fun _ => ⟨by omega, by omega⟩) ?_
    refine WL_ld inf rfl rfl rfl rfl ((hcs.cells.ext hE).at_ (j := 0) rfl) ?_
    repeat (first | refine WL1 rfl ?_ | refine WLe rfl rfl ?_ | refine W_region ?_ | refine WL2 inf rfl ?_ | refine WL_ld inf rfl rfl rfl rfl (Blk.cell (by assumption) rfl) ?_)
    refine WL_lenS rfl rfl rfl tS rfl rfl rfl (m := x.length) rfl ?_
    refine WL_bsl (cs := [(x.length : Int), 1].map fun s => .int .i64 s) rfl rfl rfl rfl rfl (bs79_2 _ _ _) ?_
    rintro h w3 rfl hh hE3
    refine WL_callq rfl rfl rfl rfl rfl enters_sum rfl (fun _ => sum_any m [(x.length : Int), 1] _ _ (intSl hh rfl (by omega)) hm0 (by omega) hsl2) ?_
    repeat (first | refine WL1 rfl ?_ | refine WLe rfl rfl ?_ | refine W_region ?_ | refine WL2 inf rfl ?_ | refine WL_ld inf rfl rfl rfl rfl (Blk.cell (by assumption) rfl) ?_)
    refine WL_add rfl rfl rfl rfl rfl rfl rfl (fun _ => by omega) ?_
    repeat (first | refine WL1 rfl ?_ | refine WLe rfl rfl ?_ | refine W_region ?_ | refine WL2 inf rfl ?_ | refine WL_ld inf rfl rfl rfl rfl (Blk.cell (by assumption) rfl) ?_)
    exact WLr rfl (k + 1, sumF m [(x.length : Int), 1]) (by simp only; omega) ⟨hE.then_ hE3, hlt, sumF_ge _ _ hm0 hsl2, sumF_le _ _ hm1, hS⟩ rfl ⟨rfl, rfl, rfl, rfl, trivial⟩
  · have hb' : (decide ((k : Int) < xs.length) && decide (m ≤ top)) = false := hb
    have hend : totF top m (xs.drop k) = m := by
      rcases Nat.lt_or_ge k xs.length with hlt | hge
      · rw [List.drop_eq_getElem_cons hlt, totF, if_neg (by
          simp only [Bool.and_eq_false_iff, decide_eq_false_iff_not] at hb'
          simp; omega)]
      · rw [List.drop_eq_nil_of_le hge, totF]
    rw [hend] at hS
    refine Wg rfl (W_region ?_)
    repeat (first | refine WL1 rfl ?_ | refine WLe rfl rfl ?_ | refine W_region ?_ | refine WL2 inf rfl ?_ | refine WL_ld inf rfl rfl rfl rfl (Blk.cell (by assumption) rfl) ?_)
    exact W_ret1 rfl rfl rfl ⟨ret_int hS.symm, hE⟩
/-- Are texts small enough? -/
def smallD (xs : List L) : Bool := decide (totF 300 0 xs ≤ 300)
theorem enters_small : Enters Tryz.prog 10 := enters_of Tryz.func10 (by kernel_rfl) rfl
theorem small_any {B : Nat → Prop} (xs : List L) (v : Value) (w : World) (hsl : Sl StrR 1 B w v xs) :
    Calls Tryz.prog 10 #[v] w fun e w' => e = .returned (.bool (smallD xs)) ∧ Ext w w' := by
  refine calls_W (args := [v]) Tryz.func10 rfl rfl rfl ?_
  refine Wg rfl (W_region ?_)
  repeat (first | refine WL1 rfl ?_ | refine WLe rfl rfl ?_ | refine W_region ?_ | refine WL2 inf rfl ?_ | refine WL_ld inf rfl rfl rfl rfl (Blk.cell (by assumption) rfl) ?_)
  refine WL_call rfl rfl rfl rfl rfl enters_total rfl (total_any xs 300 v _ hsl) ?_
  rintro e w2 ⟨rfl, hE⟩
  refine ⟨_, rfl, ?_⟩
  repeat (first | refine WL1 rfl ?_ | refine WLe rfl rfl ?_ | refine W_region ?_ | refine WL2 inf rfl ?_ | refine WL_ld inf rfl rfl rfl rfl (Blk.cell (by assumption) rfl) ?_)
  exact W_ret1 rfl rfl rfl ⟨ret_bool rfl, hE⟩
def awakeB : Cls := ⟨[65], objectS, false, false, [], [], []⟩
def awakeQ : List Cls := isort (builtinD ++ [awakeB])
theorem awakeB_nodup : ((builtinD ++ [awakeB]).map (·.name)).Nodup := by decide +kernel
theorem awakeB_prog : progD [awakeB] = awakeQ := sortC_isort awakeB_nodup
theorem awakeB_check : checkC awakeB = 0 := by decide +kernel
theorem awakeB_doubled : doubledD [awakeB] = none := by decide +kernel
theorem awakeB_small : ∀ c ∈ [awakeB], Small c := by
  intro c hc
  rw [List.mem_singleton] at hc
  subst hc
  exact checkC_small awakeB_check
theorem awakeB_rules : firstBad (rulesD (some awakeQ)) [awakeB] = none := by
  have h : (rulesD (some awakeQ)).all (fun k => k awakeB) = true := by decide +kernel
  unfold firstBad
  rw [List.findSome?_eq_none_iff]
  intro k hk
  have := List.all_eq_true.1 h k hk
  simp [this]
theorem awakeB_link : linkD [awakeB] = .ok awakeQ := by
  unfold linkD
  rw [if_neg (by simp)]
  have h1 : ([awakeB].find? fun c => checkC c != 0) = none := by simp [awakeB_check]
  rw [h1]
  dsimp only
  rw [awakeB_doubled]
  dsimp only
  rw [awakeB_prog, awakeB_rules]
theorem awakeB_fit : FitP (some awakeQ) := by rw [← awakeB_prog]; exact fitP_prog (by simp) awakeB_small
/-- Where Object lies above all classes, any two meet. -/
theorem meet_of {cs : List Cls} (h : (cs.all fun c => c.face || (chainD (some cs) c.name).contains objectS) = true) : MeetP (some cs) := by
  intro a b ha hb hfa hfb
  obtain ⟨c, hc⟩ := Option.isSome_iff_exists.1 ha
  obtain ⟨d, hd⟩ := Option.isSome_iff_exists.1 hb
  rw [hc] at hfa
  rw [hd] at hfb
  obtain ⟨mc, rfl⟩ := findP_mem hc
  obtain ⟨md, rfl⟩ := findP_mem hd
  have h1 := List.all_eq_true.1 h c mc
  have h2 := List.all_eq_true.1 h d md
  rw [show c.face = false from hfa] at h1
  rw [show d.face = false from hfb] at h2
  exact ⟨objectS, by simpa using h1, by simpa using h2⟩
theorem awakeB_meet : MeetP (some awakeQ) := meet_of (by decide +kernel)
theorem awakeB_t1 : typeD (some awakeQ) [91, 76, 65, 59] [91, 76, 79, 98, 106, 101, 99, 116, 59] = true := by decide +kernel
theorem awakeB_t2 : typeD (some awakeQ) [91, 73] [91, 76, 79, 98, 106, 101, 99, 116, 59] = false := by decide +kernel
theorem awakeB_m : mergeD (some awakeQ) [76, 65, 59] [76, 84, 97, 115, 107, 59] = [76, 79, 98, 106, 101, 99, 116, 59] := by decide +kernel
theorem bldCb (n s : ByteArray) (w : World) : (Instr.build 44 [(0, Value.string n), (1, .string s)].toArray).run Tryz.prog w = .ok (.agg [.string n, .string s, .bool false, .bool false, .slice none 0 0, .slice none 0 0, .slice none 0 0].toArray) w := by kernel_rfl
theorem enters_awake7 : Enters Tryz.prog 11 := enters_of Tryz.func11 (by kernel_rfl) rfl
set_option maxRecDepth 100000 in
set_option maxHeartbeats 4000000 in
theorem awake7_any (w : World) : Calls Tryz.prog 11 #[] w fun e w' => e = .returned (.bool true) ∧ Ext w w' := by
  refine calls_W (args := []) Tryz.func11 rfl rfl rfl ?_
  refine Wg rfl (W_region ?_)
  repeat (first | refine WL1 rfl ?_ | refine WLe rfl rfl ?_ | refine W_region ?_ | refine WL2 inf rfl ?_ | refine WL_ld inf rfl rfl rfl rfl (Blk.cell (by assumption) rfl) ?_)
  refine WL_bld rfl rfl rfl rfl (bldCb _ _) ?_
  refine WL_bsl (cs := Cls.cs awakeB (.slice none 0 0) (.slice none 0 0) (.slice none 0 0)) rfl rfl rfl rfl rfl (bsCls (Cls.cs awakeB (.slice none 0 0) (.slice none 0 0) (.slice none 0 0)) _ _ _ _ _ _ _ rfl _) ?_
  rintro h4 w4 e4 hh4 hE
  have hsl : Sl ClsR 7 (fun k => k < w4.heap.size) w4 (.slice (some ⟨h4, 0, none⟩) 1 1) [awakeB] :=
    oneSl hh4 ⟨_, _, _, rfl, by decide, by decide, Sl.nil _ _ _ _, Sl.nil _ _ _ _, Sl.nil _ _ _ _⟩ rfl hh4.lt
  refine WL_call rfl rfl rfl rfl rfl enters_classes rfl (classes_any [awakeB] _ w4 hsl fun _ h => h) ?_
  rintro e w5 ⟨hE5, hL⟩
  rw [awakeB_link] at hL
  obtain ⟨q, rfl, hPA⟩ := hL
  refine ⟨_, rfl, ?_⟩
  have hP : PrgV w5 (.pointer (some ⟨q, 0, none⟩)) (some awakeQ) := ⟨q, rfl, hPA⟩
  repeat (first | refine WL1 rfl ?_ | refine WLe rfl rfl ?_ | refine W_region ?_ | refine WL2 inf rfl ?_ | refine WL_ld inf rfl rfl rfl rfl (Blk.cell (by assumption) rfl) ?_)
  refine WL_call rfl rfl rfl rfl rfl enters_stype rfl (stype_any (some awakeQ) [91, 76, 65, 59] [91, 76, 79, 98, 106, 101, 99, 116, 59] _ w5 hP (by unfold Len; decide) (by unfold Len; decide) awakeB_fit) ?_
  rintro e w6 ⟨rfl, hE6⟩
  refine ⟨_, rfl, ?_⟩
  rw [awakeB_t1]
  repeat (first | refine WL1 rfl ?_ | refine WLe rfl rfl ?_ | refine W_region ?_ | refine WL2 inf rfl ?_ | refine WL_ld inf rfl rfl rfl rfl (Blk.cell (by assumption) rfl) ?_)
  refine WL_callgE (R := fun v W => v = .bool false ∧ Ext w6 W) rfl rfl rfl enters_stype rfl (fun _ => (stype_any (some awakeQ) [91, 73] [91, 76, 79, 98, 106, 101, 99, 116, 59] _ w6 (hP.ext hE6) (by unfold Len; decide) (by unfold Len; decide) awakeB_fit).mono fun e W ⟨h1, h2⟩ => ⟨_, h1, by rw [awakeB_t2], h2⟩) ?_
  intro v w7 h1 _
  obtain ⟨rfl, hE7⟩ := h1 rfl
  repeat (first | refine WL1 rfl ?_ | refine WLe rfl rfl ?_ | refine W_region ?_ | refine WL2 inf rfl ?_ | refine WL_ld inf rfl rfl rfl rfl (Blk.cell (by assumption) rfl) ?_)
  refine WL_callgE (R := fun v W => v = .string (mkS [76, 79, 98, 106, 101, 99, 116, 59]) ∧ Ext w7 W) rfl rfl rfl enters_smerge rfl (fun _ => (smerge_any (some awakeQ) [76, 65, 59] [76, 84, 97, 115, 107, 59] _ w7 ((hP.ext hE6).ext hE7) (by unfold Len; decide) (by unfold Len; decide) awakeB_fit awakeB_meet).mono fun e W ⟨h1, h2⟩ => ⟨_, h1, by rw [awakeB_m], h2⟩) ?_
  intro v w8 h1 _
  obtain ⟨rfl, hE8⟩ := h1 rfl
  repeat (first | refine WL1 rfl ?_ | refine WLe rfl rfl ?_ | refine W_region ?_ | refine WL2 inf rfl ?_ | refine WL_ld inf rfl rfl rfl rfl (Blk.cell (by assumption) rfl) ?_)
  exact W_ret1 rfl rfl rfl ⟨ret_bool (by decide), (((hE.then_ hE5).then_ hE6).then_ hE7).then_ hE8⟩
end Go.Proofs.YtljcmmmajjmpoaaGreatDoor
