/- link.Classes, walked. -/
import Derived.Test.YtljcmmmajjmpoaaGreatDoorClsa
namespace Go.Proofs.YtljcmmmajjmpoaaGreatDoor
open Go.RowKit Sp

theorem bldP (A : Option Addr) (m c r : Nat) (w : World) : (Instr.build 71 [(0, Value.slice A m c), (1, .map (some r))].toArray).run Tryz.prog w = .ok (.agg [.slice A m c, .map (some r)].toArray) w := by kernel_rfl
theorem bldR (w : World) : (Instr.buildSlice 77 7 [(0, Value.func (.func 57) #[] #[]), (1, Value.func (.func 58) #[] #[]), (2, Value.func (.func 59) #[] #[]), (3, Value.func (.func 60) #[] #[]), (4, Value.func (.func 61) #[] #[]), (5, Value.func (.func 62) #[] #[]), (6, Value.func (.func 63) #[] #[])].toArray).run Tryz.prog w = .ok (.slice (some ⟨w.heap.size, 0, none⟩) 7 7) (w.alloc (.cells (rulesN.map fun f => Value.func (.func f) #[] #[]).toArray 78)) := by kernel_rfl
theorem bsCls (cs : List Value) (a b c d e f g : Value) (h : cs = [a, b, c, d, e, f, g]) (w : World) : (Instr.buildSlice 22 1 [(0, Value.agg cs.toArray)].toArray).run Tryz.prog w = .ok (.slice (some ⟨w.heap.size, 0, none⟩) 1 1) (w.alloc (.cells cs.toArray 44)) := by subst h; kernel_rfl
theorem enters_classes : Enters Tryz.prog 23 := enters_of Tryz.func23 (by kernel_rfl) rfl
set_option maxRecDepth 100000 in
set_option maxHeartbeats 8000000 in
theorem classes_any {B : Nat → Prop} (l : List Cls) (v : Value) (w : World) (hsl : Sl ClsR 7 B w v l) (hBw : ∀ k, B k → k < w.heap.size) :
    Calls Tryz.prog 23 #[v] w fun e w' => Ext w w' ∧ LinkR w' (linkD l) e := by
  have hlen := hsl.len
  have hsl0 := hsl
  obtain ⟨A, cp, rfl, hl1, hl2, hrow⟩ := hsl
  refine calls_W (args := [.slice A l.length cp]) Tryz.func23 rfl rfl rfl ?_
  refine Wg rfl (W_region ?_)
  repeat (first | refine WL1 rfl ?_ | refine WLe rfl rfl ?_ | refine W_region ?_ | refine WL2 inf rfl ?_ | refine WL_ld inf rfl rfl rfl rfl (Blk.cell (by assumption) rfl) ?_)
  refine W_scope 0 (fun x : Int × L => [(3, [], .int .i64 x.1), (4, [], .string (mkS x.2))]) (fun x W => Ext w W ∧ linkD l = .error x) (fun _ => 0) rfl ?_ ?_
  · rintro x W ⟨hE, hD⟩
    refine Wg rfl (W_region ?_)
    repeat (first | refine WL1 rfl ?_ | refine WLe rfl rfl ?_ | refine W_region ?_ | refine WL2 inf rfl ?_ | refine WL_ld inf rfl rfl rfl rfl (Blk.cell (by assumption) rfl) ?_)
    refine W_retL [.pointer none, .int .i64 x.1, .string (mkS x.2)] rfl rfl ⟨rfl, rfl, rfl, trivial⟩ ⟨hE, ?_⟩
    rw [hD]
    rfl
  intro _
  refine Wg rfl (W_region ?_)
  repeat (first | refine WL1 rfl ?_ | refine WLe rfl rfl ?_ | refine W_region ?_ | refine WL2 inf rfl ?_ | refine WL_ld inf rfl rfl rfl rfl (Blk.cell (by assumption) rfl) ?_)
  refine W_cond rfl rfl (fun hb => ?_) (fun hb => ?_)
  · refine Wm rfl (5, []) ⟨Ext.rfl' w, ?_⟩ rfl ⟨rfl, rfl, trivial⟩
    have : 30 < l.length := by simp at hb; omega
    unfold linkD
    rw [if_pos this]
  have h30 : l.length ≤ 30 := by simp at hb; omega
  have hD0 : linkD l = match l.find? (fun c => checkC c != 0) with
    | some c => .error (checkC c, c.name)
    | none => match doubledD l with
      | some n => .error (8, n)
      | none => match firstBad (rulesD (some (progD l))) l with
        | some c => .error (8, c.name)
        | none => .ok (progD l) := by
    unfold linkD
    rw [if_neg (by omega)]
    rfl
  clear hb
  refine Wg rfl (W_region ?_)
  repeat (first | refine WL1 rfl ?_ | refine WLe rfl rfl ?_ | refine W_region ?_ | refine WL2 inf rfl ?_ | refine WL_ld inf rfl rfl rfl rfl (Blk.cell (by assumption) rfl) ?_)
  refine W_loop (fun k : Nat => [(0, [], .slice A l.length cp), (19, [], .slice A l.length cp), (20, [], .int .i64 l.length), (21, [], .int .i64 k)])
    (fun k W => k ≤ l.length ∧ Ext w W ∧ ∀ i c, i < k → l[i]? = some c → (checkC c != 0) = false) (fun k => l.length - k) 0 (fun _ => rfl) ⟨rfl, rfl, rfl, rfl, trivial⟩ ⟨Nat.zero_le _, Ext.rfl' w, fun i c h => absurd h (Nat.not_lt_zero i)⟩ ?_
  rintro k W ⟨hk, hE, hno⟩
  refine Wg rfl (W_region ?_)
  repeat (first | refine WL1 rfl ?_ | refine WLe rfl rfl ?_ | refine W_region ?_ | refine WL2 inf rfl ?_ | refine WL_ld inf rfl rfl rfl rfl (Blk.cell (by assumption) rfl) ?_)
  refine W_cond rfl rfl (fun hb => ?_) (fun hb => ?_)
  · have hlt : k < l.length := by simpa using hb
    have hx : l[k]? = some l[k] := List.getElem?_eq_getElem hlt
    generalize l[k] = x at hx
    obtain ⟨a, cs, rfl, hz, hR, hcs⟩ := hrow.at_ hx
    have hone := ClsR.one _ _ _ _ hR
    have hRW := ClsR.mono _ _ _ _ _ _ hR hE.keeps fun _ h => h
    obtain ⟨iv, fv, mv, rfl, -⟩ := hR
    refine Wg rfl (W_region ?_)
    refine WL_ix inf rfl rfl rfl rfl rfl (fun _ => ⟨by omega, by omega⟩) ?_
    refine WL_lda inf (cs := Cls.cs x iv fv mv) rfl rfl rfl rfl (hcs.cells.ext hE) ?_
    refine WL_alloc inf rfl rfl rfl rfl rfl ?_
    rintro g7 w3 hg7 hB3 hE3
    refine WL_sta inf (cs' := Cls.cs x iv fv mv) rfl rfl rfl rfl hone rfl hB3 rfl ?_
    rintro w4 hB4 u4
    have hE4 : Ext W w4 := u4.ext hE3 (by omega)
    repeat (first | refine WL1 rfl ?_ | refine WLe rfl rfl ?_ | refine W_region ?_ | refine WL2 inf rfl ?_ | refine WL_ld inf rfl rfl rfl rfl (Blk.cell (by assumption) rfl) ?_)
    have hBd : Blk w4.drew g7 44 (Cls.cs x iv fv mv) := hB4
    have hEd := (hE4.then_ (Ext.drew_ w4))
    refine W_draws (fun W' => Ext w4.drew W') [] mixed_ ?_
    refine WDq 0 rfl (yl_lda (cs := Cls.cs x iv fv mv) inf rfl rfl rfl rfl (fun W' hS => (hBd.ext hS).cells)) (Ext.rfl' _) (by kernel_rfl) ?_
    refine WDp 2 rfl (by first | exact stepV_yl _ rfl | exact stepI_yl _ inf rfl) (by kernel_rfl) ?_
    refine WDq 3 rfl (yl_ld inf rfl rfl rfl rfl (fun W' hS => (hBd.ext hS).cell rfl)) (Ext.rfl' _) (by kernel_rfl) ?_
    refine WDl 1 rfl (by kernel_rfl) (WL_call rfl rfl rfl rfl rfl enters_check rfl (check_any x w4.drew (fun k hk => Nat.lt_of_lt_of_le (hBw k hk) (hE.then_ hEd).size) (ClsR.mono _ _ _ _ _ _ hRW hEd.keeps fun _ h => h)) ?_)
    rintro e w5 ⟨rfl, hE5⟩
    refine ⟨_, rfl, WDc (fun h => h.then_ hE5) ?_⟩
    refine WDp 4 rfl (by first | exact stepV_yl _ rfl | exact stepI_yl _ inf rfl) (by kernel_rfl) ?_
    refine WDp 5 rfl (by first | exact stepV_yl _ rfl | exact stepI_yl _ inf rfl) (by kernel_rfl) ?_
    refine WDe (by kernel_rfl) ?_
    have hE5' := (hE.then_ hEd).then_ hE5
    repeat (first | refine WL1 rfl ?_ | refine WLe rfl rfl ?_ | refine W_region ?_ | refine WL2 inf rfl ?_ | refine WL_ld inf rfl rfl rfl rfl (Blk.cell (by assumption) rfl) ?_)
    refine W_cond rfl rfl (fun hc => ?_) (fun hc => ?_)
    · refine Wm rfl (checkC x, x.name) ⟨hE5', ?_⟩ rfl ⟨rfl, rfl, trivial⟩
      rw [hD0, find_take (fun c => checkC c != 0) hx hno hc]
    · refine Wg rfl (W_region ?_)
      refine WL_add rfl rfl rfl rfl rfl rfl rfl (fun _ => by omega) ?_
      repeat (first | refine WL1 rfl ?_ | refine WLe rfl rfl ?_ | refine W_region ?_ | refine WL2 inf rfl ?_ | refine WL_ld inf rfl rfl rfl rfl (Blk.cell (by assumption) rfl) ?_)
      refine WLr rfl (k + 1) (by omega) ⟨hlt, hE5', fun i y hi hy => ?_⟩ rfl ⟨rfl, rfl, rfl, rfl, trivial⟩
      rcases Nat.lt_or_eq_of_le (Nat.le_of_lt_succ hi) with h1 | rfl
      · exact hno i y h1 hy
      · rw [hx] at hy; cases hy; exact hc
  have hk' : k = l.length := by simp at hb; omega
  subst hk'
  rw [find_no (fun c => checkC c != 0) hno] at hD0
  have hsmall : ∀ c ∈ l, Small c := fun c hc => by
    obtain ⟨j, hj, rfl⟩ := List.getElem_of_mem hc
    have := hno j _ hj (List.getElem?_eq_getElem hj)
    exact checkC_small (by simpa using this)
  clear hno hb
  refine Wg rfl (W_region ?_)
  repeat (first | refine WL1 rfl ?_ | refine WLe rfl rfl ?_ | refine W_region ?_ | refine WL2 inf rfl ?_ | refine WL_ld inf rfl rfl rfl rfl (Blk.cell (by assumption) rfl) ?_)
  refine WL_call rfl rfl rfl rfl rfl enters_doubled rfl (doubled_any l _ _ (hsl0.ext ClsR.mono hE)) ?_
  rintro e w6 ⟨rfl, hE6⟩
  refine ⟨_, rfl, ?_⟩
  repeat (first | refine WL1 rfl ?_ | refine WLe rfl rfl ?_ | refine W_region ?_ | refine WL2 inf rfl ?_ | refine WL_ld inf rfl rfl rfl rfl (Blk.cell (by assumption) rfl) ?_)
  refine W_cond rfl rfl (fun hc => ?_) (fun hc => ?_)
  · refine Wm rfl (8, (doubledD l).getD []) ⟨hE.then_ hE6, ?_⟩ rfl ⟨rfl, rfl, trivial⟩
    obtain ⟨n, hn⟩ := Option.isSome_iff_exists.1 (show (doubledD l).isSome = true from hc)
    rw [hD0, hn]
    rfl
  have hdn : doubledD l = none := by
    cases h : doubledD l with
    | none => rfl
    | some n => rw [h] at hc; cases hc
  have hD1 : linkD l = match firstBad (rulesD (some (progD l))) l with
        | some c => .error (8, c.name)
        | none => .ok (progD l) := by rw [hD0, hdn]
  clear hc hD0
  refine Wg rfl (W_region ?_)
  refine WL_call rfl rfl rfl rfl rfl enters_builtin rfl (builtin_any w6) ?_
  rintro e w7 ⟨bv, rfl, hE7, hT⟩
  refine ⟨_, rfl, ?_⟩
  refine WL_mk rfl rfl rfl ?_
  rintro r w8 hr hm8 hE8
  have hT8 := hT.ext ClsR.mono hE8
  obtain ⟨Ab, cb, rfl⟩ := hT8.len
  refine WL_bld rfl rfl rfl rfl (bldP _ _ _ _) ?_
  refine WL_box (cs := [.slice Ab builtinD.length cb, .map (some r)]) rfl rfl rfl rfl rfl ?_
  rintro q w9 hq hB9 hE9
  have hQ9 : OwnQ q w6.heap.size w8 _ _ := OwnQ.of hT8 (by omega)
  replace hQ9 := hQ9.ext hE9
  have hm9 := hm8.ext hE9
  have hE69 : Ext w6 w9 := (hE7.then_ hE8).then_ hE9
  have hE9' : Ext w w9 := (hE.then_ hE6).then_ hE69
  have hz := (hE.then_ hE6).size
  have hz7 := hE7.size
  have hz8 := hE8.size
  have hz9 := hE9.size
  have hql := hB9.lt
  clear hT hT8 hm8
  repeat (first | refine WL1 rfl ?_ | refine WLe rfl rfl ?_ | refine W_region ?_ | refine WL2 inf rfl ?_ | refine WL_ld inf rfl rfl rfl rfl (Blk.cell (by assumption) rfl) ?_)
  refine W_loop (fun k : Nat => [(0, [], .slice A l.length cp), (2, [], .pointer (some ⟨q, 0, none⟩)), (3, [], .int .i64 8), (42, [], .slice A l.length cp), (43, [], .int .i64 l.length), (44, [], .int .i64 k)])
    (fun k W => k ≤ l.length ∧ Ext w W ∧ ∃ lv, Blk W q 71 [lv, .map (some r)] ∧ MapAt W r [] ∧ OwnQ q w6.heap.size W lv (builtinD ++ l.take k))
    (fun k => l.length - k) 0 (fun _ => rfl) ⟨rfl, rfl, rfl, rfl, rfl, rfl, trivial⟩ ⟨Nat.zero_le _, hE9', _, hB9, hm9, by simpa using hQ9⟩ ?_
  clear hQ9 hm9 hB9 hE9'
  rintro k W ⟨hk, hE, lv, hB, hm, hQ⟩
  refine Wg rfl (W_region ?_)
  repeat (first | refine WL1 rfl ?_ | refine WLe rfl rfl ?_ | refine W_region ?_ | refine WL2 inf rfl ?_ | refine WL_ld inf rfl rfl rfl rfl (Blk.cell (by assumption) rfl) ?_)
  refine W_cond rfl rfl (fun hb => ?_) (fun hb => ?_)
  · have hlt : k < l.length := by simpa using hb
    have hx : l[k]? = some l[k] := List.getElem?_eq_getElem hlt
    have htk : l.take (k + 1) = l.take k ++ [l[k]] := by rw [List.take_add_one, hx]; rfl
    generalize l[k] = x at hx htk
    obtain ⟨a, cs, rfl, hz2, hR, hcs⟩ := hrow.at_ hx
    have hone := ClsR.one _ _ _ _ hR
    have hRW := ClsR.mono _ _ _ _ _ _ hR hE.keeps fun _ h => h
    obtain ⟨iv, fv, mv, rfl, -⟩ := hR
    refine Wg rfl (W_region ?_)
    refine WL_ix inf rfl rfl rfl rfl rfl (fun _ => ⟨by omega, by omega⟩) ?_
    refine WL_lda inf (cs := Cls.cs x iv fv mv) rfl rfl rfl rfl (hcs.cells.ext hE) ?_
    refine WL_alloc inf rfl rfl rfl rfl rfl ?_
    rintro g9 w3 hg9 hB3 hE3
    refine WL_sta inf (cs' := Cls.cs x iv fv mv) rfl rfl rfl rfl hone rfl hB3 rfl ?_
    rintro w4 hB4 u4
    have hE4 : Ext W w4 := u4.ext hE3 (by omega)
    have hBq := hB.ext hE4
    have hmq := hm.ext hE4
    have hQ4 := hQ.ext hE4
    have hqne := hQ.ne hB rfl
    have hqlt := hB.lt
    obtain ⟨Al, cl, rfl⟩ := hQ.len
    repeat (first | refine WL1 rfl ?_ | refine WLe rfl rfl ?_ | refine W_region ?_ | refine WL2 inf rfl ?_ | refine WL_ld inf rfl rfl rfl rfl (Blk.cell (by assumption) rfl) ?_)
    have hBd : Blk w4.drew g9 44 (Cls.cs x iv fv mv) := hB4
    have hBqd : Blk w4.drew q 71 [.slice Al (builtinD ++ l.take k).length cl, .map (some r)] := hBq
    have hEd := (hE4.then_ (Ext.drew_ w4))
    have hQd := hQ4.ext (Ext.drew_ w4)
    have hmd := hmq.ext (Ext.drew_ w4)
    refine W_draws (fun W' => Ext w4.drew W') [8, 11] mixed_ ?_
    refine WDp 0 rfl (by first | exact stepV_yl _ rfl | exact stepI_yl _ inf rfl) (by kernel_rfl) ?_
    refine WDp 1 rfl (by first | exact stepV_yl _ rfl | exact stepI_yl _ inf rfl) (by kernel_rfl) ?_
    refine WDp 2 rfl (by first | exact stepV_yl _ rfl | exact stepI_yl _ inf rfl) (by kernel_rfl) ?_
    refine WDp 3 rfl (by first | exact stepV_yl _ rfl | exact stepI_yl _ inf rfl) (by kernel_rfl) ?_
    refine WDq 4 rfl (yl_ld inf rfl rfl rfl rfl (fun W' hS => (hBqd.ext hS).cell rfl)) (Ext.rfl' _) (by kernel_rfl) ?_
    refine WDq 5 rfl (yl_lda (cs := Cls.cs x iv fv mv) inf rfl rfl rfl rfl (fun W' hS => (hBd.ext hS).cells)) (Ext.rfl' _) (by kernel_rfl) ?_
    refine WDl 6 rfl (by kernel_rfl) (WL_call rfl rfl rfl rfl rfl enters_own rfl (own_any x w4.drew (fun k hk => Nat.lt_of_lt_of_le (hBw k hk) (hE.then_ hEd).size) (ClsR.mono _ _ _ _ _ _ hRW hEd.keeps fun _ h => h) (hsmall x (List.mem_of_getElem? hx))) ?_)
    rintro e w5 ⟨iv', fv', mv', rfl, hE5, hR5⟩
    refine ⟨_, rfl, WDc (fun h => h.then_ hE5) ?_⟩
    have hone5 := ClsR.one _ _ _ _ hR5
    refine WDl 7 rfl (by kernel_rfl) (WL_bsl (cs := Cls.cs x iv' fv' mv') rfl rfl rfl rfl rfl (bsCls (Cls.cs x iv' fv' mv') _ _ _ _ _ _ _ rfl _) ?_)
    rintro h w10 rfl hh hE10
    refine WDc (fun h => h.then_ hE10) ?_
    have hE510 := hE5.then_ hE10
    have hQ10 := hQd.ext hE510
    obtain ⟨css, hown, heach⟩ := hQd
    have hbl := builtin_len
    have hcl := heach.len
    have hz5 := hE5.size
    have hz10 := hE10.size
    have hzw4 : W.heap.size ≤ w4.drew.heap.size := hEd.size
    have hzW := hE.size
    have hlW : w6.heap.size ≤ W.heap.size := by omega
    refine WDl 8 rfl (by kernel_rfl) (WL_app ei (ncs := [Cls.cs x iv' fv' mv']) rfl rfl rfl rfl rfl rfl (hown.ext hE510) (by simpa using hh.cells) rfl (by simp [Cls.cs]) (by simpa using hone5) (by simp at hcl ⊢; omega) (by omega) ?_)
    rintro v11 w11 hown11 hg11 hr11
    refine WDd (by simp) ?_
    have hQ11 : OwnQ q w6.heap.size w11 v11 (builtinD ++ l.take (k + 1)) := by
      rw [htk, ← List.append_assoc]
      refine OwnQ.app heach hE510 (ClsR.mono _ _ _ _ _ _ hR5 hE10.keeps fun _ h => h) (fun b hb => ⟨⟨by omega, by omega, fun e => ?_⟩, by omega⟩) hown11 hg11 hr11
      have := hown.own b e.symm
      omega
    have hBq11 := (hBqd.ext hE510).grown hg11 hqne
    have hm11 := (hmd.ext hE510).grown hg11 (hown.neMap hmd)
    have hE11 : Ext w w11 := grown_ext hg11 ((hE.then_ hEd).then_ hE510) fun b hb => by have := hown.own b hb; omega
    have hq11 : some q ≠ v11.ownBlock := hQ11.ne hBq11 rfl
    have hv11 : v11.oneCell' = true := by obtain ⟨A, c, rfl⟩ := hQ11.len; rfl
    refine WDp 9 rfl (by first | exact stepV_yl _ rfl | exact stepI_yl _ inf rfl) (by kernel_rfl) ?_
    refine WDp 10 rfl (by first | exact stepV_yl _ rfl | exact stepI_yl _ inf rfl) (by kernel_rfl) ?_
    refine WDl 11 rfl (by kernel_rfl) (WL_st (g := q) (i := 0) inf rfl rfl rfl rfl hv11 rfl hBq11 rfl ?_)
    rintro w12 hB12 u12
    refine WDd (by simp) (WDe (by kernel_rfl) ?_)
    repeat (first | refine WL1 rfl ?_ | refine WLe rfl rfl ?_ | refine W_region ?_ | refine WL2 inf rfl ?_ | refine WL_ld inf rfl rfl rfl rfl (Blk.cell (by assumption) rfl) ?_)
    refine WL_add rfl rfl rfl rfl rfl rfl rfl (fun _ => by omega) ?_
    repeat (first | refine WL1 rfl ?_ | refine WLe rfl rfl ?_ | refine W_region ?_ | refine WL2 inf rfl ?_ | refine WL_ld inf rfl rfl rfl rfl (Blk.cell (by assumption) rfl) ?_)
    exact WLr rfl (k + 1) (by omega) ⟨hlt, u12.ext hE11 (by omega), v11, hB12, hm11.upd u12 (hm11.ne hBq11).symm, hQ11.upd u12 hq11⟩ rfl ⟨rfl, rfl, rfl, rfl, rfl, rfl, trivial⟩
  have hk' : k = l.length := by simp at hb; omega
  subst hk'
  rw [List.take_length] at hQ
  clear hb
  have hqne := hQ.ne hB rfl
  obtain ⟨Al, cl, rfl⟩ := hQ.len
  obtain ⟨css, hown, heach⟩ := hQ
  refine Wg rfl (W_region ?_)
  repeat (first | refine WL1 rfl ?_ | refine WLe rfl rfl ?_ | refine W_region ?_ | refine WL2 inf rfl ?_ | refine WL_ld inf rfl rfl rfl rfl (Blk.cell (by assumption) rfl) ?_)
  refine WL_call rfl rfl rfl rfl rfl enters_sfCls rfl (sfCls_any hown heach (fun k hk => hk.1.2.2) (by intro h; have := congrArg List.length h; rw [List.length_append, builtin_len] at this; simp at this) (all_nodup hdn) (by rw [List.length_append, builtin_len]; omega)) ?_
  rintro e w11 ⟨rfl, hg11, css11, hown11, heach11⟩
  refine ⟨_, rfl, ?_⟩
  have hz11 := hg11.size
  have hQ11 : OwnQ q w6.heap.size w11 (.slice Al (builtinD ++ l).length cl) (progD l) := ⟨css11, hown11, heach11.imp fun x cs h => ClsR.mono _ _ _ _ _ _ h (Keeps.rfl' _ _) fun b ⟨⟨b1, b2, b3⟩, b4⟩ => ⟨⟨b1, by omega, b3⟩, b4⟩⟩
  have hB11 := hB.grown hg11 hqne
  have hm11 := hm.grown hg11 (hown.neMap hm)
  have hE11 : Ext w w11 := grown_ext hg11 hE fun b hb => by have := hown.own b hb; omega
  have hpl : (builtinD ++ l).length = (progD l).length := (progD_perm l).length_eq.symm
  rw [hpl] at hB11 hQ11
  clear hown hown11 heach heach11 hg11 hm hB hE
  have hpn := progD_nodup hdn
  have hpz := progD_len l
  repeat (first | refine WL1 rfl ?_ | refine WLe rfl rfl ?_ | refine W_region ?_ | refine WL2 inf rfl ?_ | refine WL_ld inf rfl rfl rfl rfl (Blk.cell (by assumption) rfl) ?_)
  refine W_loop (fun k : Nat => [(0, [], .slice A l.length cp), (2, [], .pointer (some ⟨q, 0, none⟩)), (3, [], .int .i64 8), (68, [], .slice Al (progD l).length cl), (69, [], .int .i64 (progD l).length), (70, [], .int .i64 k)])
    (fun k W => k ≤ (progD l).length ∧ Ext w W ∧ ∃ es, Blk W q 71 [.slice Al (progD l).length cl, .map (some r)] ∧ MapAt W r es ∧ Idx es ((progD l).take k) ∧ OwnQ q w6.heap.size W (.slice Al (progD l).length cl) (progD l))
    (fun k => (progD l).length - k) 0 (fun _ => rfl) ⟨rfl, rfl, rfl, rfl, rfl, rfl, trivial⟩ ⟨Nat.zero_le _, hE11, [], hB11, hm11, fun s => rfl, hQ11⟩ ?_
  clear hB11 hm11 hQ11 hE11
  rintro k W ⟨hk, hE, es, hB, hm, hI, hQ⟩
  refine Wg rfl (W_region ?_)
  repeat (first | refine WL1 rfl ?_ | refine WLe rfl rfl ?_ | refine W_region ?_ | refine WL2 inf rfl ?_ | refine WL_ld inf rfl rfl rfl rfl (Blk.cell (by assumption) rfl) ?_)
  refine W_cond rfl rfl (fun hb => ?_) (fun hb => ?_)
  · have hlt : k < (progD l).length := by simpa using hb
    have hx : (progD l)[k]? = some (progD l)[k] := List.getElem?_eq_getElem hlt
    generalize (progD l)[k] = x at hx
    obtain ⟨A2, c2, hv2, _, _, hrow2⟩ := hQ.sl
    obtain ⟨rfl, rfl⟩ : Al = A2 ∧ cl = c2 := by simp at hv2; exact hv2
    obtain ⟨a, cs, rfl, hz2, hR, hcs⟩ := hrow2.at_ hx
    have hone := ClsR.one _ _ _ _ hR
    obtain ⟨iv, fv, mv, rfl, -⟩ := hR
    refine Wg rfl (W_region ?_)
    repeat (first | refine WL1 rfl ?_ | refine WLe rfl rfl ?_ | refine W_region ?_ | refine WL2 inf rfl ?_ | refine WL_ld inf rfl rfl rfl rfl (Blk.cell (by assumption) rfl) ?_)
    refine WL_ix inf rfl rfl rfl rfl rfl (fun _ => ⟨by omega, by omega⟩) ?_
    refine WL_lda inf (cs := Cls.cs x iv fv mv) rfl rfl rfl rfl hcs.cells ?_
    refine WL_alloc inf rfl rfl rfl rfl rfl ?_
    rintro g11 w3 hg9 hB3 hE3
    repeat (first | refine WL1 rfl ?_ | refine WLe rfl rfl ?_ | refine W_region ?_ | refine WL2 inf rfl ?_ | refine WL_ld inf rfl rfl rfl rfl (Blk.cell (by assumption) rfl) ?_)
    refine WL_sta inf (cs' := Cls.cs x iv fv mv) rfl rfl rfl rfl hone rfl hB3 rfl ?_
    rintro w4 hB4 u4
    have hE4 : Ext W w4 := u4.ext hE3 (by omega)
    repeat (first | refine WL1 rfl ?_ | refine WLe rfl rfl ?_ | refine W_region ?_ | refine WL2 inf rfl ?_ | refine WL_ld inf rfl rfl rfl rfl (Blk.cell (by assumption) rfl) ?_)
    have hBd : Blk w4.drew g11 44 (Cls.cs x iv fv mv) := hB4
    have hEd := (hE4.then_ (Ext.drew_ w4))
    have hBqd := hB.ext hEd
    have hmd := hm.ext hEd
    have hQd := hQ.ext hEd
    have hmlt := hm.lt
    refine W_draws (fun W' => Ext w4.drew W') [7] mixed_ ?_
    refine WDp 0 rfl (by first | exact stepV_yl _ rfl | exact stepI_yl _ inf rfl) (by kernel_rfl) ?_
    refine WDp 1 rfl (by first | exact stepV_yl _ rfl | exact stepI_yl _ inf rfl) (by kernel_rfl) ?_
    refine WDp 2 rfl (by first | exact stepV_yl _ rfl | exact stepI_yl _ inf rfl) (by kernel_rfl) ?_
    refine WDq 3 rfl (yl_ld inf rfl rfl rfl rfl (fun W' hS => (hBqd.ext hS).cell rfl)) (Ext.rfl' _) (by kernel_rfl) ?_
    refine WDp 4 rfl (by first | exact stepV_yl _ rfl | exact stepI_yl _ inf rfl) (by kernel_rfl) ?_
    refine WDq 5 rfl (yl_ld inf rfl rfl rfl rfl (fun W' hS => (hBd.ext hS).cell rfl)) (Ext.rfl' _) (by kernel_rfl) ?_
    refine WDp 6 rfl (by first | exact stepV_yl _ rfl | exact stepI_yl _ inf rfl) (by kernel_rfl) ?_
    refine WDl 7 rfl (by kernel_rfl) (WL_mu rfl rfl rfl rfl rfl mSI hmd ?_)
    rintro w5 hm5 u5
    refine WDd (by simp) (WDe (by kernel_rfl) ?_)
    repeat (first | refine WL1 rfl ?_ | refine WLe rfl rfl ?_ | refine W_region ?_ | refine WL2 inf rfl ?_ | refine WL_ld inf rfl rfl rfl rfl (Blk.cell (by assumption) rfl) ?_)
    refine WL_add rfl rfl rfl rfl rfl rfl rfl (fun _ => by omega) ?_
    repeat (first | refine WL1 rfl ?_ | refine WLe rfl rfl ?_ | refine W_region ?_ | refine WL2 inf rfl ?_ | refine WL_ld inf rfl rfl rfl rfl (Blk.cell (by assumption) rfl) ?_)
    exact WLr rfl (k + 1) (by omega) ⟨hlt, u5.ext (hE.then_ hEd) (by omega), _, u5.blk hBqd (hmd.ne hBqd), hm5, hI.step hx hpn, hQd.updM hmd u5⟩ rfl ⟨rfl, rfl, rfl, rfl, rfl, rfl, trivial⟩
  have hk' : k = (progD l).length := by simp at hb; omega
  subst hk'
  rw [List.take_length] at hI
  clear hb
  have hPA : ProgAt W q (progD l) := ⟨_, r, es, hB.cells, hQ.sl, hm, hI⟩
  clear hB hm hI hQ
  have hfit := fitP_prog h30 hsmall
  refine Wg rfl (W_region ?_)
  refine WL_bsl (cs := rulesN.map fun f => Value.func (.func f) #[] #[]) rfl rfl rfl rfl rfl (bldR _) ?_
  rintro h w12 rfl hh hE12
  repeat (first | refine WL1 rfl ?_ | refine WLe rfl rfl ?_ | refine W_region ?_ | refine WL2 inf rfl ?_ | refine WL_ld inf rfl rfl rfl rfl (Blk.cell (by assumption) rfl) ?_)
  refine W_loop (fun k : Nat => [(0, [], .slice A l.length cp), (2, [], .pointer (some ⟨q, 0, none⟩)), (3, [], .int .i64 8), (83, [], .slice (some ⟨W.heap.size, 0, none⟩) 7 7), (84, [], .int .i64 (7 : Nat)), (85, [], .int .i64 k)])
    (fun k W' => k ≤ 7 ∧ Ext w W' ∧ Blk W' W.heap.size 78 (rulesN.map fun f => Value.func (.func f) #[] #[]) ∧ ProgAt W' q (progD l) ∧ ∀ j k', j < k → (rulesD (some (progD l)))[j]? = some k' → (l.find? fun c => !k' c) = none)
    (fun k => 7 - k) 0 (fun _ => rfl) ⟨rfl, rfl, rfl, rfl, rfl, rfl, trivial⟩ ⟨Nat.zero_le _, hE.then_ hE12, hh, hPA.ext hE12, fun j k' h => absurd h (Nat.not_lt_zero j)⟩ ?_
  clear hh hPA hE12 hE
  generalize hW0 : W.heap.size = h
  rintro k W ⟨hk, hE, hh, hPA, hno⟩
  refine Wg rfl (W_region ?_)
  repeat (first | refine WL1 rfl ?_ | refine WLe rfl rfl ?_ | refine W_region ?_ | refine WL2 inf rfl ?_ | refine WL_ld inf rfl rfl rfl rfl (Blk.cell (by assumption) rfl) ?_)
  refine W_cond rfl rfl (fun hb => ?_) (fun hb => ?_)
  · have hlt : k < 7 := by simp at hb; omega
    obtain ⟨f, hf⟩ : ∃ f, rulesN[k]? = some f := ⟨rulesN[k]'hlt, List.getElem?_eq_getElem hlt⟩
    obtain ⟨kf, hkf⟩ : ∃ kf, (rulesD (some (progD l)))[k]? = some kf := ⟨(rulesD (some (progD l)))[k]'hlt, List.getElem?_eq_getElem hlt⟩
    refine Wg rfl (W_region ?_)
    refine WL_ix inf rfl rfl rfl rfl rfl (fun _ => ⟨by omega, by omega⟩) ?_
    refine WL_ld inf (v := .func (.func f) #[] #[]) rfl rfl rfl rfl (by
      have h1 := hh.cells k (.func (.func f) #[] #[]) (by rw [List.getElem?_map, hf]; rfl)
      simpa using h1) ?_
    repeat (first | refine WL1 rfl ?_ | refine WLe rfl rfl ?_ | refine W_region ?_ | refine WL2 inf rfl ?_ | refine WL_ld inf rfl rfl rfl rfl (Blk.cell (by assumption) rfl) ?_)
    refine W_loop (fun j : Nat => [(0, [], .slice (A) l.length cp), (2, [], .pointer (some ⟨q, 0, none⟩)), (3, [], .int .i64 8), (83, [], .slice (some ⟨h, 0, none⟩) 7 7), (84, [], .int .i64 (7 : Nat)), (85, [], .int .i64 k), (13, [], .func (.func f) #[] #[]), (89, [], .slice A l.length cp), (90, [], .int .i64 l.length), (91, [], .int .i64 j)])
      (fun j W' => j ≤ l.length ∧ Ext w W' ∧ Blk W' h 78 (rulesN.map fun f => Value.func (.func f) #[] #[]) ∧ ProgAt W' q (progD l) ∧ ∀ i c, i < j → l[i]? = some c → (!kf c) = false)
      (fun j => l.length - j) 0 (fun _ => rfl) ⟨rfl, rfl, rfl, rfl, rfl, rfl, rfl, rfl, rfl, rfl, trivial⟩ ⟨Nat.zero_le _, hE, hh, hPA, fun i c h => absurd h (Nat.not_lt_zero i)⟩ ?_
    clear hh hPA hE hb
    rintro j W ⟨hj, hE, hh, hPA, hko⟩
    refine Wg rfl (W_region ?_)
    repeat (first | refine WL1 rfl ?_ | refine WLe rfl rfl ?_ | refine W_region ?_ | refine WL2 inf rfl ?_ | refine WL_ld inf rfl rfl rfl rfl (Blk.cell (by assumption) rfl) ?_)
    refine W_cond rfl rfl (fun hb => ?_) (fun hb => ?_)
    · have hlt2 : j < l.length := by simpa using hb
      have hx : l[j]? = some l[j] := List.getElem?_eq_getElem hlt2
      generalize l[j] = x at hx
      obtain ⟨a, cs, rfl, hz2, hR, hcs⟩ := hrow.at_ hx
      have hone := ClsR.one _ _ _ _ hR
      have hRW := ClsR.mono _ _ _ _ _ _ hR hE.keeps fun _ h => h
      obtain ⟨iv, fv, mv, rfl, -⟩ := hR
      refine Wg rfl (W_region ?_)
      refine WL_ix inf rfl rfl rfl rfl rfl (fun _ => ⟨by omega, by omega⟩) ?_
      refine WL_lda inf (cs := Cls.cs x iv fv mv) rfl rfl rfl rfl (hcs.cells.ext hE) ?_
      refine WL_alloc inf rfl rfl rfl rfl rfl ?_
      rintro g9 w3 hg9 hB3 hE3
      refine WL_sta inf (cs' := Cls.cs x iv fv mv) rfl rfl rfl rfl hone rfl hB3 rfl ?_
      rintro w4 hB4 u4
      have hE4 : Ext W w4 := u4.ext hE3 (by omega)
      have hPV : PrgV w4 (.pointer (some ⟨q, 0, none⟩)) (some (progD l)) := ⟨q, rfl, hPA.ext hE4⟩
      have hcall := rule_any (some (progD l)) (.pointer (some ⟨q, 0, none⟩)) x (Cls.cs x iv fv mv) w4 hPV hfit (ClsR.mono _ _ _ _ _ _ hRW hE4.keeps fun _ h => h) k f kf hf hkf
      repeat (first | refine WL1 rfl ?_ | refine WLe rfl rfl ?_ | refine W_region ?_ | refine WL2 inf rfl ?_ | refine WL_ld inf rfl rfl rfl rfl (Blk.cell (by assumption) rfl) ?_)
      refine WL_lda inf (cs := Cls.cs x iv fv mv) rfl rfl rfl rfl hB4.cells ?_
      refine WL_callv (cap := []) rfl rfl rfl rfl rfl hcall.1 rfl hcall.2 ?_
      rintro e w5 ⟨rfl, hE5⟩
      refine ⟨_, rfl, ?_⟩
      repeat (first | refine WL1 rfl ?_ | refine WLe rfl rfl ?_ | refine W_region ?_ | refine WL2 inf rfl ?_ | refine WL_ld inf rfl rfl rfl rfl (Blk.cell (by assumption) rfl) ?_)
      refine W_cond rfl rfl (fun hc => ?_) (fun hc => ?_)
      · refine Wm rfl (8, x.name) ⟨(hE.then_ hE4).then_ hE5, ?_⟩ rfl ⟨rfl, rfl, trivial⟩
        rw [hD1, firstBad_at hkf (fun j' k' hj' hk' => hno j' k' hj' hk') (find_take (fun c => !kf c) hx hko hc)]
      · refine Wg rfl (W_region ?_)
        refine WL_add rfl rfl rfl rfl rfl rfl rfl (fun _ => by omega) ?_
        repeat (first | refine WL1 rfl ?_ | refine WLe rfl rfl ?_ | refine W_region ?_ | refine WL2 inf rfl ?_ | refine WL_ld inf rfl rfl rfl rfl (Blk.cell (by assumption) rfl) ?_)
        refine WLr rfl (j + 1) (by omega) ⟨hlt2, (hE.then_ hE4).then_ hE5, (hh.ext hE4).ext hE5, (hPA.ext hE4).ext hE5, fun i y hi hy => ?_⟩ rfl ⟨rfl, rfl, rfl, rfl, rfl, rfl, rfl, rfl, rfl, rfl, trivial⟩
        rcases Nat.lt_or_eq_of_le (Nat.le_of_lt_succ hi) with h1 | rfl
        · exact hko i y h1 hy
        · rw [hx] at hy; cases hy; exact hc
    · have hj' : j = l.length := by simp at hb; omega
      subst hj'
      refine Wg rfl (W_region ?_)
      refine WL_add rfl rfl rfl rfl rfl rfl rfl (fun _ => by omega) ?_
      repeat (first | refine WL1 rfl ?_ | refine WLe rfl rfl ?_ | refine W_region ?_ | refine WL2 inf rfl ?_ | refine WL_ld inf rfl rfl rfl rfl (Blk.cell (by assumption) rfl) ?_)
      refine WLr rfl (k + 1) (by omega) ⟨hlt, hE, hh, hPA, fun i k' hi hk' => ?_⟩ rfl ⟨rfl, rfl, rfl, rfl, rfl, rfl, trivial⟩
      rcases Nat.lt_or_eq_of_le (Nat.le_of_lt_succ hi) with h1 | rfl
      · exact hno i k' h1 hk'
      · rw [hkf] at hk'; cases hk'; exact find_no (fun c => !kf c) hko
  · have hk7 : k = 7 := by simp at hb; omega
    subst hk7
    refine Wg rfl (W_region ?_)
    repeat (first | refine WL1 rfl ?_ | refine WLe rfl rfl ?_ | refine W_region ?_ | refine WL2 inf rfl ?_ | refine WL_ld inf rfl rfl rfl rfl (Blk.cell (by assumption) rfl) ?_)
    refine W_retL [.pointer (some ⟨q, 0, none⟩), .int .i64 0, .string (mkS [])] rfl rfl ⟨rfl, rfl, rfl, trivial⟩ ⟨hE, ?_⟩
    rw [hD1, firstBad_no (fun j k' hj hk' => hno j k' (by simpa [rulesD] using hj) hk')]
    exact ⟨q, rfl, hPA⟩
end Go.Proofs.YtljcmmmajjmpoaaGreatDoor
