/- link.Builtin, walked. -/
import Derived.Test.YtljcmmmajjmpoaaGreatDoorBuiltin
namespace Go.Proofs.YtljcmmmajjmpoaaGreatDoor
open Go.RowKit Sp

def headK (k : Nat) : List (L × L) := (objectS, []) :: (throwS, objectS) :: (exS.take k).map fun s => (s, throwS)
/-- The first k with their methods, the others bare. -/
def HeadAt (base k : Nat) (W : World) (v : Value) : Prop := ∃ css, OwnR base 44 7 W v (css ++ (headL.drop k).map fun p => bareV p.1 p.2) ∧ Each (ClsR (Bx base W v) W) ((headL.take k).map fun p => initC p.1 p.2) css
theorem enters_builtin : Enters Tryz.prog 52 := enters_of Tryz.func52 (by kernel_rfl) rfl
theorem initR {B : Nat → Prop} {W : World} {g h : Nat} {p : L × L} (hp : Len p.1 ∧ Len p.2) (hb : Blk W g 86 (Mth.cs (codeM init_ voidS false) (.slice (some ⟨h, 0, none⟩) 1 1) (.slice none 0 0))) (hg : B g) (hm : MthR B W (codeM init_ voidS false) (Mth.cs (codeM init_ voidS false) (.slice (some ⟨h, 0, none⟩) 1 1) (.slice none 0 0))) :
    ClsR B W (initC p.1 p.2) (putAt (bareV p.1 p.2) 6 [.slice (some ⟨g, 0, none⟩) 1 1]) := by
  refine ⟨.slice none 0 0, .slice none 0 0, .slice (some ⟨g, 0, none⟩) 1 1, rfl, hp.1, hp.2, Sl.nil _ _ _ _, Sl.nil _ _ _ _, _, _, rfl, Nat.le_refl _, by simp [initC, maxLen], fun i y hy => ?_⟩
  have hi : i = 0 := by
    have := (List.getElem?_eq_some_iff.1 hy).1
    simp [initC] at this; exact this
  subst hi
  simp [initC] at hy; subst hy
  exact ⟨_, rfl, hm, fun j v hj => ⟨by rw [add_block]; exact hg, by have := hb.cells j v hj; simpa [add_add] using this⟩⟩
set_option maxRecDepth 100000 in
set_option maxHeartbeats 4000000 in
theorem builtin_any (w : World) : Calls Tryz.prog 52 #[] w fun e w' => ∃ v, e = .returned v ∧ Ext w w' ∧ OwnT ClsR 44 7 w.heap.size w' v builtinD := by
  refine calls_W (args := []) Tryz.func52 rfl rfl rfl ?_
  refine Wg rfl (W_region ?_)
  repeat (first | refine WL1 rfl ?_ | refine WLe rfl rfl ?_ | refine W_region ?_ | refine WL2 inf rfl ?_ | refine WL_ld inf rfl rfl rfl rfl (Blk.cell (by assumption) rfl) ?_)
  refine WL_bld rfl rfl rfl rfl (bldC1 _) ?_
  refine WL_bld rfl rfl rfl rfl (bldC2 _ _) ?_
  refine WL_bsl (cs := bareV objectS [] ++ bareV throwS objectS) rfl rfl rfl rfl rfl (bs22_2 _ _ _ _ _ _ _ _ _ _ _ _ _ _ _) ?_
  rintro g w1 hg hB1 hE
  have hown1 : OwnR w.heap.size 44 7 w1 (.slice (some ⟨g, 0, none⟩) 2 2) ((headK 0).map fun p => bareV p.1 p.2) := OwnR.of_blk (by simpa [headK] using hB1) (by simp [headK, bareV, Cls.cs]) rfl (by omega) (by omega)
  repeat (first | refine WL1 rfl ?_ | refine WLe rfl rfl ?_ | refine W_region ?_ | refine WL2 inf rfl ?_ | refine WL_ld inf rfl rfl rfl rfl (Blk.cell (by assumption) rfl) ?_)
  refine WL_bsl (cs := exS.map fun s => .string (mkS s)) rfl rfl rfl rfl rfl (bs8_ _) ?_
  rintro hn w2 hhn hBn hE2
  replace hown1 := hown1.ext hE2
  replace hE := hE.then_ hE2
  clear hB1 hE2
  repeat (first | refine WL1 rfl ?_ | refine WLe rfl rfl ?_ | refine W_region ?_ | refine WL2 inf rfl ?_ | refine WL_ld inf rfl rfl rfl rfl (Blk.cell (by assumption) rfl) ?_)
  refine W_loop (fun x : Nat × Value => [(1, [], x.2), (10, [], .slice (some ⟨hn, 0, none⟩) 8 8), (11, [], .int .i64 8), (12, [], .int .i64 x.1)])
    (fun x W => x.1 ≤ 8 ∧ Ext w W ∧ Blk W hn 9 (exS.map fun s => .string (mkS s)) ∧ OwnR w.heap.size 44 7 W x.2 ((headK x.1).map fun p => bareV p.1 p.2))
    (fun x => 8 - x.1) (0, .slice (some ⟨g, 0, none⟩) 2 2) (fun _ => rfl) ⟨rfl, rfl, rfl, rfl, trivial⟩ ⟨Nat.zero_le _, hE, hBn, hown1⟩ ?_
  clear hE hBn hown1
  rintro ⟨k, v⟩ W ⟨hk, hE, hBn, hown⟩
  dsimp only at hk hown ⊢
  refine Wg rfl (W_region ?_)
  repeat (first | refine WL1 rfl ?_ | refine WLe rfl rfl ?_ | refine W_region ?_ | refine WL2 inf rfl ?_ | refine WL_ld inf rfl rfl rfl rfl (Blk.cell (by assumption) rfl) ?_)
  refine W_cond rfl rfl (fun hb => ?_) (fun hb => ?_)
  · have hlt : k < exS.length := by have : k < 8 := by have := of_decide_eq_true hb; omega
                                    simpa [exS] using this
    have hx : exS[k]? = some exS[k] := List.getElem?_eq_getElem hlt
    generalize exS[k] = x at hx
    have hlt8 : k < 8 := by simpa [exS] using hlt
    refine Wg rfl (W_region ?_)
    refine WL_ix inf rfl rfl rfl rfl rfl (fun _ => ⟨by omega, by omega⟩) ?_
    refine WL_ld inf rfl rfl rfl rfl (v := .string (mkS x)) (by
      have := hBn.cells k (.string (mkS x)) (by rw [List.getElem?_map, hx]; rfl)
      simpa using this) ?_
    repeat (first | refine WL1 rfl ?_ | refine WLe rfl rfl ?_ | refine W_region ?_ | refine WL2 inf rfl ?_ | refine WL_ld inf rfl rfl rfl rfl (Blk.cell (by assumption) rfl) ?_)
    refine WL_bld rfl rfl rfl rfl (bldC2 _ _) ?_
    refine WL_bsl (cs := bareV x throwS) rfl rfl rfl rfl rfl (bs22_1 _ _ _ _ _ _ _ _) ?_
    rintro h w3 rfl hh hE3
    refine WL_app ei (ncs := [bareV x throwS]) rfl rfl rfl rfl rfl rfl (hown.ext hE3) (by simpa using hh.cells) rfl (by simp [bareV, Cls.cs]) (by simp [bareV, Cls.cs, Value.oneCell']) (by simp [headK]; omega) (Nat.le_trans hE.size hE3.size) ?_
    rintro v' w4 hown4 hg4 hrow4
    have hE4 : Ext w w4 := grown_ext hg4 (hE.then_ hE3) fun b hb => (hown.own b hb).1
    have hBn4 := (hBn.ext hE3).grown hg4 ((hown.ext hE3).ne (hBn.ext hE3) rfl)
    repeat (first | refine WL1 rfl ?_ | refine WLe rfl rfl ?_ | refine W_region ?_ | refine WL2 inf rfl ?_ | refine WL_ld inf rfl rfl rfl rfl (Blk.cell (by assumption) rfl) ?_)
    refine WL_add rfl rfl rfl rfl rfl rfl rfl (fun _ => by omega) ?_
    repeat (first | refine WL1 rfl ?_ | refine WLe rfl rfl ?_ | refine W_region ?_ | refine WL2 inf rfl ?_ | refine WL_ld inf rfl rfl rfl rfl (Blk.cell (by assumption) rfl) ?_)
    refine WLr rfl (k + 1, v') (by simp only; omega) ⟨hlt8, hE4, hBn4, ?_⟩ rfl ⟨rfl, rfl, rfl, rfl, trivial⟩
    have : headK (k + 1) = headK k ++ [(x, throwS)] := by unfold headK; rw [List.take_add_one, hx]; simp
    rw [this, List.map_append]
    exact hown4
  have hk' : k = 8 := by
    have := of_decide_eq_false hb
    omega
  subst hk'
  clear hb hk hBn
  have hH : HeadAt w.heap.size 0 W v := ⟨[], hown, trivial⟩
  obtain ⟨A, c, hv⟩ := hown.val
  have hv10 : v = .slice A 10 c := hv
  obtain ⟨g1, c1, hg1, hge, hglt, -⟩ := hown.cells (i := 0) (cs := bareV objectS []) rfl
  have hA : A = some ⟨g1, 0, none⟩ := by rw [hv] at hg1; cases hg1; rfl
  subst hA
  subst hv10
  clear hown hv hg1
  refine Wg rfl (W_region ?_)
  repeat (first | refine WL1 rfl ?_ | refine WLe rfl rfl ?_ | refine W_region ?_ | refine WL2 inf rfl ?_ | refine WL_ld inf rfl rfl rfl rfl (Blk.cell (by assumption) rfl) ?_)
  refine W_loop (fun k : Nat => [(1, [], .slice (some ⟨g1, 0, none⟩) 10 c), (23, [], .int .i64 10), (24, [], .int .i64 k)])
    (fun k W => k ≤ 10 ∧ Ext w W ∧ HeadAt w.heap.size k W (.slice (some ⟨g1, 0, none⟩) 10 c))
    (fun k => 10 - k) 0 (fun _ => rfl) ⟨rfl, rfl, rfl, trivial⟩ ⟨Nat.zero_le _, hE, hH⟩ ?_
  clear hE hH hglt
  rintro k W ⟨hk, hE, css, hown, heach⟩
  refine Wg rfl (W_region ?_)
  repeat (first | refine WL1 rfl ?_ | refine WLe rfl rfl ?_ | refine W_region ?_ | refine WL2 inf rfl ?_ | refine WL_ld inf rfl rfl rfl rfl (Blk.cell (by assumption) rfl) ?_)
  refine W_cond rfl rfl (fun hb => ?_) (fun hb => ?_)
  · have hlt : k < headL.length := by have : k < 10 := by have := of_decide_eq_true hb; omega
                                      simpa [headL, exS] using this
    have hlt10 : k < 10 := by simpa [headL, exS] using hlt
    have hx : headL[k]? = some headL[k] := List.getElem?_eq_getElem hlt
    have hmem : headL[k] ∈ headL := List.getElem_mem hlt
    have hd : headL.drop k = headL[k] :: headL.drop (k + 1) := List.drop_eq_getElem_cons hlt
    have htk : headL.take (k + 1) = headL.take k ++ [headL[k]] := by rw [List.take_add_one, hx]; rfl
    generalize headL[k] = p at hx hmem hd htk
    have hlen := headL_len p hmem
    have hcl : css.length = k := by rw [← heach.len, List.length_map, List.length_take]; omega
    rw [hd, List.map_cons] at hown
    refine Wg rfl (W_region ?_)
    repeat (first | refine WL1 rfl ?_ | refine WLe rfl rfl ?_ | refine W_region ?_ | refine WL2 inf rfl ?_ | refine WL_ld inf rfl rfl rfl rfl (Blk.cell (by assumption) rfl) ?_)
    refine WL_call rfl rfl rfl rfl rfl enters_code rfl (code_any init_ voidS false _ (by decide) (by decide)) ?_
    rintro e w3 ⟨h, rfl, hE3, hh1, hh2, hm⟩
    refine ⟨_, rfl, ?_⟩
    refine WL_bsl (cs := Mth.cs (codeM init_ voidS false) (.slice (some ⟨h, 0, none⟩) 1 1) (.slice none 0 0)) rfl rfl rfl rfl rfl (bs42_1 _ _ _ _ _ _ _ _ _) ?_
    rintro g4 w4 hg4 hB4 hE4
    have hE34 := hE3.then_ hE4
    have l4 := hB4.lt
    have s3 := hE3.size
    have s4 := hE4.size
    have sw := hE.size
    refine WL_ix inf rfl rfl rfl rfl rfl (fun _ => ⟨by omega, by omega⟩) ?_
    refine WL2 inf rfl ?_
    have ho4 := hown.ext hE34
    have hown1 := hown.own g1 rfl
    refine WL_str (z := 7) (i := k) (o := 6) inf rfl rfl rfl rfl rfl rfl ho4 (cs := bareV p.1 p.2) (by rw [List.getElem?_append_right (by omega), hcl]; simp) (by omega) ?_
    rintro w5 ho5 u5
    have hne : g4 ≠ g1 := by omega
    have hE5 : Ext w w5 := u5.ext (hE.then_ hE34) hge
    repeat (first | refine WL1 rfl ?_ | refine WLe rfl rfl ?_ | refine W_region ?_ | refine WL2 inf rfl ?_ | refine WL_ld inf rfl rfl rfl rfl (Blk.cell (by assumption) rfl) ?_)
    refine WL_add rfl rfl rfl rfl rfl rfl rfl (fun _ => by omega) ?_
    repeat (first | refine WL1 rfl ?_ | refine WLe rfl rfl ?_ | refine W_region ?_ | refine WL2 inf rfl ?_ | refine WL_ld inf rfl rfl rfl rfl (Blk.cell (by assumption) rfl) ?_)
    refine WLr rfl (k + 1) (by omega) ⟨hlt10, hE5, css ++ [putAt (bareV p.1 p.2) 6 [.slice (some ⟨g4, 0, none⟩) 1 1]], ?_, ?_⟩ rfl ⟨rfl, rfl, rfl, trivial⟩
    · have : (css ++ bareV p.1 p.2 :: (headL.drop (k + 1)).map fun p => bareV p.1 p.2).set k (putAt (bareV p.1 p.2) 6 [.slice (some ⟨g4, 0, none⟩) 1 1]) = css ++ [putAt (bareV p.1 p.2) 6 [.slice (some ⟨g4, 0, none⟩) 1 1]] ++ (headL.drop (k + 1)).map fun p => bareV p.1 p.2 := by
        rw [List.set_append_right _ _ (by omega), hcl]; simp
      rw [this] at ho5
      exact ho5
    · rw [htk, List.map_append]
      have s5 := u5.size
      refine Each.app (heach.imp fun x cs hx => ?_) ⟨?_, trivial⟩
      · have h1 : ClsR (Bx w.heap.size w4 (.slice (some ⟨g1, 0, none⟩) 10 c)) w4 x cs := ClsR.mono _ _ _ _ _ _ hx hE34.keeps fun b ⟨b1, b2, b3⟩ => ⟨b1, by omega, b3⟩
        exact ClsR.mono _ _ _ _ _ _ h1 (u5.keeps fun b hb e => hb.2.2 (by rw [e]; rfl)) fun b ⟨b1, b2, b3⟩ => ⟨b1, by omega, b3⟩
      · refine initR hlen (u5.blk hB4 hne) ⟨by omega, by omega, fun e => hne (Option.some.inj e)⟩ ?_
        refine MthR.mono _ _ _ _ _ _ hm ((hE4.keeps).then_ (u5.keeps fun b hb e => ?_)) fun b hb => ?_
        · subst hb; omega
        · subst hb; exact ⟨by omega, by omega, fun e => by have e' := Option.some.inj (show some _ = some g1 from e); omega⟩
  have hk' : k = 10 := by
    have := of_decide_eq_false hb
    omega
  subst hk'
  have hT : OwnT ClsR 44 7 w.heap.size W (.slice (some ⟨g1, 0, none⟩) 10 c) (headL.map fun p => initC p.1 p.2) := ⟨css, by simpa [headL, exS] using hown, heach⟩
  clear hown heach hb hk
  refine Wg rfl (W_region ?_)
  refine WL_bld rfl rfl rfl rfl (bldM _ _) ?_
  refine WL_alloc inf rfl rfl rfl rfl rfl ?_
  rintro g5 w5 hg5 hB5 hE5
  refine WL_sta inf (cs' := Mth.cs runM (.slice none 0 0) (.slice none 0 0)) rfl rfl rfl rfl (Mth.one _ rfl rfl) rfl hB5 rfl ?_
  rintro w6 hB6 u6
  have hE6 : Ext W w6 := u6.ext hE5 (by omega)
  repeat (first | refine WL1 rfl ?_ | refine WLe rfl rfl ?_ | refine W_region ?_ | refine WL2 inf rfl ?_ | refine WL_ld inf rfl rfl rfl rfl (Blk.cell (by assumption) rfl) ?_)
  refine WL_lda inf (cs := Mth.cs runM (.slice none 0 0) (.slice none 0 0)) rfl rfl rfl rfl hB6.cells ?_
  refine WL_bsl (cs := Mth.cs runM (.slice none 0 0) (.slice none 0 0)) rfl rfl rfl rfl rfl (bs42_1 _ _ _ _ _ _ _ _ _) ?_
  rintro gm w7 hgm hBm hE7
  refine WL_bld rfl rfl rfl rfl (bldC4 _ _ _ _ _) ?_
  refine WL_bsl (cs := Cls.cs taskC (.slice none 0 0) (.slice none 0 0) (.slice (some ⟨gm, 0, none⟩) 1 1)) rfl rfl rfl rfl rfl (bs22_1 _ _ _ _ _ _ _ _) ?_
  rintro gt w8 hgt hBt hE8
  obtain ⟨css, hown, heach⟩ := hT
  have hcl : css.length = 10 := by rw [← heach.len]; simp [headL, exS]
  have hE68 := (hE6.then_ hE7).then_ hE8
  refine WL_app ei (v := .slice (some ⟨g1, 0, none⟩) 10 c) (ncs := [Cls.cs taskC (.slice none 0 0) (.slice none 0 0) (.slice (some ⟨gm, 0, none⟩) 1 1)]) rfl rfl rfl rfl rfl rfl (hown.ext hE68) (by simpa using hBt.cells) rfl (by simp [Cls.cs]) (by simp [Cls.cs, Value.oneCell']) (by omega) (Nat.le_trans hE.size hE68.size) ?_
  rintro v9 w9 hown9 hg9 hrow9
  have hE9 : Ext w w9 := grown_ext hg9 (hE.then_ hE68) fun b hb => (hown.own b hb).1
  have hrun : MthR (fun b => b = gm) w8 runM (Mth.cs runM (.slice none 0 0) (.slice none 0 0)) := ⟨_, _, rfl, by decide, by decide, Sl.nil _ _ _ _, Sl.nil _ _ _ _⟩
  have htask : ClsR (fun b => b = gm) w8 taskC (Cls.cs taskC (.slice none 0 0) (.slice none 0 0) (.slice (some ⟨gm, 0, none⟩) 1 1)) := by
    refine ⟨_, _, _, rfl, by decide, by decide, Sl.nil _ _ _ _, Sl.nil _ _ _ _, _, _, rfl, Nat.le_refl _, by simp [taskC, maxLen], fun i y hy => ?_⟩
    have hi : i = 0 := by
      have := (List.getElem?_eq_some_iff.1 hy).1
      simp [taskC] at this; exact this
    subst hi
    simp [taskC] at hy; subst hy
    exact ⟨_, rfl, hrun, fun j v hj => ⟨by rw [add_block], by have := (hBm.ext hE8).cells j v hj; simpa [add_add] using this⟩⟩
  have s6 := hE6.size
  have s7 := hE7.size
  have s8 := hE8.size
  have sW := hE.size
  have lm := hBm.lt
  have hT9 := OwnT.app ClsR.mono heach hE68 (B1 := fun b => b = gm) (ys := [taskC]) (ncs := [Cls.cs taskC (.slice none 0 0) (.slice none 0 0) (.slice (some ⟨gm, 0, none⟩) 1 1)]) ⟨htask, trivial⟩ (fun b hb => by
    subst hb
    refine ⟨by omega, by omega, fun e => ?_⟩
    have e' : b = g1 := Option.some.inj e
    have := (hown.own g1 rfl).2
    omega) hown9 hg9 hrow9
  clear hown heach hown9 hg9 hrow9 hB5 hB6 hBm hBt hrun htask
  repeat (first | refine WL1 rfl ?_ | refine WLe rfl rfl ?_ | refine W_region ?_ | refine WL2 inf rfl ?_ | refine WL_ld inf rfl rfl rfl rfl (Blk.cell (by assumption) rfl) ?_)
  refine WL_bld rfl rfl rfl rfl (bldC3 _ _) ?_
  refine WL_alloc inf rfl rfl rfl rfl rfl ?_
  rintro g6 w10 hg6 hB10 hE10
  refine WL_sta inf (cs' := Cls.cs sysC (.slice none 0 0) (.slice none 0 0) (.slice none 0 0)) rfl rfl rfl rfl (Cls.one _ rfl rfl rfl) rfl hB10 rfl ?_
  rintro w15 hS15 u15
  have hE15 : Ext w9 w15 := u15.ext hE10 (by omega)
  clear hB10 hE10 u15
  have lS := hS15.lt
  have sw := hE9.size
  have s15 := hE15.size
  repeat (first | refine WL1 rfl ?_ | refine WLe rfl rfl ?_ | refine W_region ?_ | refine WL2 inf rfl ?_ | refine WL_ld inf rfl rfl rfl rfl (Blk.cell (by assumption) rfl) ?_)
  refine W_draws (fun W' => Ext w15.drew W') [7] mixed_ ?_
  refine WDp 0 rfl (by first | exact stepV_yl _ rfl | exact stepI_yl _ inf rfl) (by kernel_rfl) ?_
  refine WDq 1 rfl (yl_ld inf rfl rfl rfl rfl (fun W' hS => ((hS15.ext (Ext.drew_ _)).ext hS).cell rfl)) (Ext.rfl' _) (by kernel_rfl) ?_
  refine WDl 2 rfl (by kernel_rfl) (WL_call rfl rfl rfl rfl rfl enters_code rfl (code_any _ _ true _ (by decide) (by decide)) ?_)
  rintro e wa ⟨ha, rfl, hEa, ha1, ha2, hma⟩
  refine ⟨_, rfl, WDc (fun h => h.then_ hEa) ?_⟩
  refine WDl 3 rfl (by kernel_rfl) (WL_call rfl rfl rfl rfl rfl enters_code rfl (code_any _ _ true _ (by decide) (by decide)) ?_)
  rintro e wb ⟨hb, rfl, hEb, hb1, hb2, hmb⟩
  refine ⟨_, rfl, WDc (fun h => h.then_ hEb) ?_⟩
  refine WDl 4 rfl (by kernel_rfl) (WL_bsl (cs := (Mth.cs pickM (.slice (some ⟨ha, 0, none⟩) 1 1) (.slice none 0 0)) ++ (Mth.cs echoM (.slice (some ⟨hb, 0, none⟩) 1 1) (.slice none 0 0))) rfl rfl rfl rfl rfl (bs42_2 _ _ _ _ _ _ _ _ _ _ _ _ _ _ _ _ _) ?_)
  rintro gc wc hgc hBc hEc
  refine WDc (fun h => h.then_ hEc) ?_
  have sa := hEa.size
  have sb := hEb.size
  have sc := hEc.size
  have sd : w15.drew.heap.size = w15.heap.size := rfl
  refine WDl 5 rfl (by kernel_rfl) (WL_app ei (ncs := [(Mth.cs pickM (.slice (some ⟨ha, 0, none⟩) 1 1) (.slice none 0 0)), (Mth.cs echoM (.slice (some ⟨hb, 0, none⟩) 1 1) (.slice none 0 0))]) rfl rfl rfl rfl rfl rfl (OwnR.nil w15.heap.size _ _ _) (by simpa using hBc.cells) rfl (by simp [Mth.cs]) (by simp [Mth.cs, Value.oneCell']) (by simp) (by omega) ?_)
  rintro mv wd hmo hgd hrd
  refine WDc (fun h => grown_ext hgd h (fun b hb => by cases hb)) ?_
  obtain ⟨Am, cm, hmv⟩ := hmo.val
  replace hmv : mv = .slice Am 2 cm := hmv
  have hSd := (((((hS15.ext (Ext.drew_ _)).ext hEa).ext hEb).ext hEc).grown hgd (by simp [Value.ownBlock]))
  refine WDp 6 rfl (by first | exact stepV_yl _ rfl | exact stepI_yl _ inf rfl) (by kernel_rfl) ?_
  refine WDl 7 rfl (by kernel_rfl) (WL_st (g := g6) (i := 6) inf rfl rfl rfl rfl (by rw [hmv]; rfl) rfl hSd rfl ?_)
  rintro w16 hS16 u16
  refine WDd (by simp) (WDe (by kernel_rfl) ?_)
  have hEac := (hEa.then_ hEb).then_ hEc
  have hE15d : Ext w15 wd := (grown_ext hgd ((Ext.drew_ w15).then_ hEac) (fun b hb => by cases hb))
  have hM := OwnT.app MthR.mono (R := MthR) (base := w15.heap.size) (xs := []) (css := []) (v := .slice none 0 0) trivial (Ext.rfl' wc) (B1 := fun b => b = ha ∨ b = hb) (ys := [pickM, echoM]) (ncs := [(Mth.cs pickM (.slice (some ⟨ha, 0, none⟩) 1 1) (.slice none 0 0)), (Mth.cs echoM (.slice (some ⟨hb, 0, none⟩) 1 1) (.slice none 0 0))])
    ⟨MthR.mono _ _ _ _ _ _ hma (hEb.then_ hEc).keeps fun b hb => .inl hb, MthR.mono _ _ _ _ _ _ hmb hEc.keeps fun b hb => .inr hb, trivial⟩
    (fun b hb => ⟨by omega, by omega, fun e => by cases e⟩) hmo hgd hrd
  replace hM := hM.upd MthR.mono u16 (by omega)
  have hE16 : Ext w9 w16 := u16.ext (hE15.then_ hE15d) (by omega)
  have s16 : w15.heap.size ≤ w16.heap.size := by rw [u16.size]; exact hE15d.size
  have hcs16 : setN (Cls.cs sysC (.slice none 0 0) (.slice none 0 0) (.slice none 0 0)) 6 mv = Cls.cs sysC (.slice none 0 0) (.slice none 0 0) mv := rfl
  rw [hcs16] at hS16
  clear hcs16 hma hmb hmo hgd hrd hBc hSd hS15 hEa hEb hEc hEac u16 hE15d ha1 ha2 hb1 hb2 sa sb sc sd hgc
  repeat (first | refine WL1 rfl ?_ | refine WLe rfl rfl ?_ | refine W_region ?_ | refine WL2 inf rfl ?_ | refine WL_ld inf rfl rfl rfl rfl (Blk.cell (by assumption) rfl) ?_)
  refine W_draws (fun W' => Ext w16.drew W') [5, 7] mixed_ ?_
  refine WDp 0 rfl (by first | exact stepV_yl _ rfl | exact stepI_yl _ inf rfl) (by kernel_rfl) ?_
  refine WDq 1 rfl (yl_ld inf rfl rfl rfl rfl (fun W' hS => ((hS16.ext (Ext.drew_ _)).ext hS).cell rfl)) (Ext.rfl' _) (by kernel_rfl) ?_
  refine WDl 2 rfl (by kernel_rfl) (WL_call rfl rfl rfl rfl rfl enters_code rfl (code_any _ _ true _ (by decide) (by decide)) ?_)
  rintro e we ⟨xa, rfl, hEa, xa1, xa2, hma⟩
  refine ⟨_, rfl, WDc (fun h => h.then_ hEa) ?_⟩
  refine WDl 3 rfl (by kernel_rfl) (WL_call rfl rfl rfl rfl rfl enters_code rfl (code_any _ _ true _ (by decide) (by decide)) ?_)
  rintro e wf ⟨xb, rfl, hEb, xb1, xb2, hmb⟩
  refine ⟨_, rfl, WDc (fun h => h.then_ hEb) ?_⟩
  refine WDl 4 rfl (by kernel_rfl) (WL_bsl (cs := (Mth.cs freshM (.slice (some ⟨xa, 0, none⟩) 1 1) (.slice none 0 0)) ++ (Mth.cs callM (.slice (some ⟨xb, 0, none⟩) 1 1) (.slice none 0 0))) rfl rfl rfl rfl rfl (bs42_2 _ _ _ _ _ _ _ _ _ _ _ _ _ _ _ _ _) ?_)
  rintro gc wg hgc hBc hEc
  refine WDc (fun h => h.then_ hEc) ?_
  have sa := hEa.size
  have sb := hEb.size
  have sc := hEc.size
  have sd : w16.drew.heap.size = w16.heap.size := rfl
  obtain ⟨mcss, hmo, hme⟩ := hM
  have hml : mcss.length = 2 := by rw [← hme.len]; rfl
  have hEac := ((Ext.drew_ w16).then_ hEa).then_ (hEb.then_ hEc)
  refine WDl 5 rfl (by kernel_rfl) (WL_app ei (ncs := [(Mth.cs freshM (.slice (some ⟨xa, 0, none⟩) 1 1) (.slice none 0 0)), (Mth.cs callM (.slice (some ⟨xb, 0, none⟩) 1 1) (.slice none 0 0))]) rfl rfl rfl rfl rfl rfl (hmo.ext hEac) (by simpa using hBc.cells) rfl (by simp [Mth.cs]) (by simp [Mth.cs, Value.oneCell']) (by rw [hml]; omega) (by omega) ?_)
  rintro mv2 wh hmo2 hg2 hr2
  refine WDd (by simp) ?_
  obtain ⟨A2, c2, hmv2⟩ := hmo2.val
  replace hmv2 : mv2 = .slice A2 4 c2 := by rw [hmv2]; simp [hml]
  have hSh := (hS16.ext hEac).grown hg2 ((hmo.ext hEac).ne (hS16.ext hEac) rfl)
  refine WDp 6 rfl (by first | exact stepV_yl _ rfl | exact stepI_yl _ inf rfl) (by kernel_rfl) ?_
  refine WDl 7 rfl (by kernel_rfl) (WL_st (g := g6) (i := 6) inf rfl rfl rfl rfl (by rw [hmv2]; rfl) rfl hSh rfl ?_)
  rintro w17 hS17 u17
  refine WDd (by simp) (WDe (by kernel_rfl) ?_)
  have hM2 := OwnT.app MthR.mono hme hEac (B1 := fun b => b = xa ∨ b = xb) (ys := [freshM, callM]) (ncs := [(Mth.cs freshM (.slice (some ⟨xa, 0, none⟩) 1 1) (.slice none 0 0)), (Mth.cs callM (.slice (some ⟨xb, 0, none⟩) 1 1) (.slice none 0 0))])
    ⟨MthR.mono _ _ _ _ _ _ hma (hEb.then_ hEc).keeps fun b hb => .inl hb, MthR.mono _ _ _ _ _ _ hmb hEc.keeps fun b hb => .inr hb, trivial⟩
    (fun b hb => ⟨by omega, by omega, fun e => by have := (hmo.own b e.symm).2; omega⟩) hmo2 hg2 hr2
  replace hM2 := hM2.upd MthR.mono u17 (by omega)
  have hE17 : Ext w9 w17 := u17.ext (grown_ext hg2 (hE16.then_ hEac) fun b hb => by have := (hmo.own b hb).1; omega) (by omega)
  have s17 : w15.heap.size ≤ w17.heap.size := by rw [u17.size]; exact Nat.le_trans (by omega) hg2.size
  have hcs17 : setN (Cls.cs sysC (.slice none 0 0) (.slice none 0 0) mv) 6 mv2 = Cls.cs sysC (.slice none 0 0) (.slice none 0 0) mv2 := rfl
  rw [hcs17] at hS17
  have hsl := hM2.sl MthR.mono
  clear hcs17 hma hmb hmo hme hmo2 hg2 hr2 hBc hSh hS16 hEa hEb hEc hEac u17 xa1 xa2 xb1 xb2 sa sb sc sd hgc
  repeat (first | refine WL1 rfl ?_ | refine WLe rfl rfl ?_ | refine W_region ?_ | refine WL2 inf rfl ?_ | refine WL_ld inf rfl rfl rfl rfl (Blk.cell (by assumption) rfl) ?_)
  refine WL_lda inf (cs := Cls.cs sysC (.slice none 0 0) (.slice none 0 0) mv2) rfl rfl rfl rfl hS17.cells ?_
  refine WL_bsl (cs := Cls.cs sysC (.slice none 0 0) (.slice none 0 0) mv2) rfl rfl rfl rfl rfl (bs22_1 _ _ _ _ _ _ _ _) ?_
  rintro gz w18 hgz hBz hE18
  obtain ⟨css, hown, heach⟩ := hT9
  have hcl2 : css.length = 11 := by rw [← heach.len]; simp [headL, exS]
  have hE98 := hE17.then_ hE18
  have s18 := hE98.size
  refine WL_app ei (ncs := [Cls.cs sysC (.slice none 0 0) (.slice none 0 0) mv2]) rfl rfl rfl rfl rfl rfl (hown.ext hE98) (by simpa using hBz.cells) rfl (by simp [Cls.cs]) (Cls.one' sysC hmv2) (by omega) (by omega) ?_
  rintro vz wz hoz hgz2 hrz
  repeat (first | refine WL1 rfl ?_ | refine WLe rfl rfl ?_ | refine W_region ?_ | refine WL2 inf rfl ?_ | refine WL_ld inf rfl rfl rfl rfl (Blk.cell (by assumption) rfl) ?_)
  refine W_ret1 rfl rfl rfl ⟨vz, rfl, grown_ext hgz2 (hE9.then_ hE98) (fun b hb => (hown.own b hb).1), ?_⟩
  refine OwnT.app ClsR.mono heach hE98 (B1 := fun b => w15.heap.size ≤ b ∧ b < w17.heap.size) (ys := [sysC]) (ncs := [Cls.cs sysC (.slice none 0 0) (.slice none 0 0) mv2]) ⟨⟨_, _, _, rfl, by decide, by decide, Sl.nil _ _ _ _, Sl.nil _ _ _ _, hsl.mono MthR.mono hE18.keeps fun _ h => h⟩, trivial⟩ (fun b hb => ⟨by omega, by have := hE18.size; omega, fun e => ?_⟩) hoz hgz2 hrz
  have := (hown.own b e.symm).2
  omega
end Go.Proofs.YtljcmmmajjmpoaaGreatDoor
