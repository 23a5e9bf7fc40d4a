/- link: apart, straight. -/
import Derived.Test.YtljcmmmajjmpoaaGreatDoorLink
namespace Go.Proofs.YtljcmmmajjmpoaaGreatDoor
open Go.RowKit Sp

theorem enters_apart : Enters Tryz.prog 60 := enters_of Tryz.func60 (by kernel_rfl) rfl
set_option maxHeartbeats 4000000 in
theorem apart_any {B : Nat → Prop} (c : Cls) (pv : Value) (cs : List Value) (w : World) (hc : ClsR B w c cs) :
    Calls Tryz.prog 60 #[pv, .agg cs.toArray] w fun e w' => e = .returned (.bool (apartD c)) ∧ Ext w w' := by
  obtain ⟨iv, fv, mv, rfl, hl1, hl2, hsi, hsf, hsm⟩ := hc
  have hlf := hsf.len
  have hlm := hsm.len
  obtain ⟨Af, cf, rfl, hf1, hf2, hrf⟩ := hsf
  obtain ⟨Am, cm, rfl, hm1, hm2, hrm⟩ := hsm
  refine calls_W (args := [pv, .agg (Cls.cs c iv (.slice Af c.fields.length cf) (.slice Am c.methods.length cm)).toArray]) Tryz.func60 rfl rfl rfl ?_
  refine Wg rfl (W_region ?_)
  refine WL_box (cs := Cls.cs c iv (.slice Af c.fields.length cf) (.slice Am c.methods.length cm)) rfl rfl rfl rfl rfl ?_
  rintro g w1 hg hB hE
  repeat (first | refine WL1 rfl ?_ | refine WLe rfl rfl ?_ | refine W_region ?_ | refine WL2 inf rfl ?_ | refine WL_ld inf rfl rfl rfl rfl (Blk.cell (by assumption) rfl) ?_)
  refine W_loop (fun k : Nat => [(3, [], .pointer (some ⟨g, 0, none⟩)), (10, [], .slice Af c.fields.length cf), (11, [], .int .i64 c.fields.length), (12, [], .int .i64 k)])
    (fun k W => k ≤ c.fields.length ∧ Ext w W ∧ Blk W g 44 (Cls.cs c iv (.slice Af c.fields.length cf) (.slice Am c.methods.length cm)) ∧ ∀ i, i < k → (!(c.fields.take i).any fun g => g.name == ((c.fields[i]?).getD ⟨[], [], false⟩).name) = true)
    (fun k => c.fields.length - k) 0 (fun _ => rfl) ⟨rfl, rfl, rfl, rfl, trivial⟩ ⟨Nat.zero_le _, hE, hB, fun i h => absurd h (Nat.not_lt_zero i)⟩ ?_
  clear hE hB
  rintro k W ⟨hk, hE, hB, hno⟩
  refine Wg rfl (W_region ?_)
  repeat (first | refine WL1 rfl ?_ | refine WLe rfl rfl ?_ | refine W_region ?_ | refine WL2 inf rfl ?_ | refine WL_ld inf rfl rfl rfl rfl (Blk.cell (by assumption) rfl) ?_)
  refine W_cond rfl rfl (fun hb => ?_) (fun hb => ?_)
  · have hlt : k < c.fields.length := by simpa using hb
    have hx : c.fields[k]? = some c.fields[k] := List.getElem?_eq_getElem hlt
    generalize c.fields[k] = x at hx
    obtain ⟨a, cs, rfl, hz, ⟨rfl, hx1, hx2⟩, hcs⟩ := hrf.at_ hx
    refine Wg rfl (W_region ?_)
    repeat (first | refine WL1 rfl ?_ | refine WLe rfl rfl ?_ | refine W_region ?_ | refine WL2 inf rfl ?_ | refine WL_ld inf rfl rfl rfl rfl (Blk.cell (by assumption) rfl) ?_)
    refine WL_ix inf rfl rfl rfl rfl rfl (fun _ => ⟨by omega, by omega⟩) ?_
    refine WL_lda inf (cs := Fld.cs x) rfl rfl rfl rfl (hcs.cells.ext hE) ?_
    refine WL_alloc inf rfl rfl rfl rfl rfl ?_
    rintro g6 w3 hg6 hB3 hE3
    repeat (first | refine WL1 rfl ?_ | refine WLe rfl rfl ?_ | refine W_region ?_ | refine WL2 inf rfl ?_ | refine WL_ld inf rfl rfl rfl rfl (Blk.cell (by assumption) rfl) ?_)
    refine WL_sta inf (cs' := Fld.cs x) rfl rfl rfl rfl (Fld.one x) rfl hB3 rfl ?_
    rintro w4 hB4 u4
    have hE4 : Ext W w4 := u4.ext hE3 (by omega)
    replace hB := hB.ext hE4
    repeat (first | refine WL1 rfl ?_ | refine WLe rfl rfl ?_ | refine W_region ?_ | refine WL2 inf rfl ?_ | refine WL_ld inf rfl rfl rfl rfl (Blk.cell (by assumption) rfl) ?_)
    refine WL_cutL inf rfl rfl rfl rfl rfl (fun _ => ⟨by omega, by omega⟩) ?_
    repeat (first | refine WL1 rfl ?_ | refine WLe rfl rfl ?_ | refine W_region ?_ | refine WL2 inf rfl ?_ | refine WL_ld inf rfl rfl rfl rfl (Blk.cell (by assumption) rfl) ?_)
    refine WL_call rfl rfl rfl rfl rfl enters_cfFld rfl (cfFld_any (cap := [.pointer (some ⟨g6, 0, none⟩)]) (fun g => g.name == x.name) ((hrf.sl_take (k := k) hk hf1 hf2).ext FldR.mono (hE.then_ hE4)) enters_apart1 (fun W x' cs hW _ _ hx => apart1_any x x' cs g6 W (FldR.mono _ _ _ _ _ _ hx hW.keeps fun _ h => h) (hB4.ext hW))) ?_
    rintro e w5 ⟨rfl, hE5⟩
    refine ⟨_, rfl, ?_⟩
    replace hB := hB.ext hE5
    have hfact : (c.fields.take k).any (fun g => g.name == ((c.fields[k]?).getD ⟨[], [], false⟩).name) = (c.fields.take k).any (fun g => g.name == x.name) := by rw [hx]; rfl
    repeat (first | refine WL1 rfl ?_ | refine WLe rfl rfl ?_ | refine W_region ?_ | refine WL2 inf rfl ?_ | refine WL_ld inf rfl rfl rfl rfl (Blk.cell (by assumption) rfl) ?_)
    refine W_cond rfl rfl (fun hc => ?_) (fun hc => ?_)
    · refine Wg rfl (W_region ?_)
      repeat (first | refine WL1 rfl ?_ | refine WLe rfl rfl ?_ | refine W_region ?_ | refine WL2 inf rfl ?_ | refine WL_ld inf rfl rfl rfl rfl (Blk.cell (by assumption) rfl) ?_)
      refine W_ret1 rfl rfl rfl ⟨ret_bool ?_, (hE.then_ hE4).then_ hE5⟩
      unfold apartD
      rw [range_no hlt (by rw [hfact, hc]; rfl), Bool.false_and]
    · refine Wg rfl (W_region ?_)
      refine WL_add rfl rfl rfl rfl rfl rfl rfl (fun _ => by omega) ?_
      repeat (first | refine WL1 rfl ?_ | refine WLe rfl rfl ?_ | refine W_region ?_ | refine WL2 inf rfl ?_ | refine WL_ld inf rfl rfl rfl rfl (Blk.cell (by assumption) rfl) ?_)
      refine WLr rfl (k + 1) (by omega) ⟨hlt, (hE.then_ hE4).then_ hE5, hB, fun i hi => ?_⟩ rfl ⟨rfl, rfl, rfl, rfl, trivial⟩
      rcases Nat.lt_or_eq_of_le (Nat.le_of_lt_succ hi) with h1 | rfl
      · exact hno i h1
      · rw [hfact, hc]; rfl
  have hk' : k = c.fields.length := by simp at hb; omega
  subst hk'
  have h1st := range_all hno
  clear hno hb
  refine Wg rfl (W_region ?_)
  repeat (first | refine WL1 rfl ?_ | refine WLe rfl rfl ?_ | refine W_region ?_ | refine WL2 inf rfl ?_ | refine WL_ld inf rfl rfl rfl rfl (Blk.cell (by assumption) rfl) ?_)
  refine W_loop (fun k : Nat => [(3, [], .pointer (some ⟨g, 0, none⟩)), (25, [], .slice Am c.methods.length cm), (26, [], .int .i64 c.methods.length), (27, [], .int .i64 k)])
    (fun k W => k ≤ c.methods.length ∧ Ext w W ∧ Blk W g 44 (Cls.cs c iv (.slice Af c.fields.length cf) (.slice Am c.methods.length cm)) ∧ ∀ i, i < k → (!(c.methods.take i).any fun n => n.name == ((c.methods[i]?).getD runM).name && n.desc == ((c.methods[i]?).getD runM).desc) = true)
    (fun k => c.methods.length - k) 0 (fun _ => rfl) ⟨rfl, rfl, rfl, rfl, trivial⟩ ⟨Nat.zero_le _, hE, hB, fun i h => absurd h (Nat.not_lt_zero i)⟩ ?_
  clear hE hB
  rintro k W ⟨hk, hE, hB, hno⟩
  refine Wg rfl (W_region ?_)
  repeat (first | refine WL1 rfl ?_ | refine WLe rfl rfl ?_ | refine W_region ?_ | refine WL2 inf rfl ?_ | refine WL_ld inf rfl rfl rfl rfl (Blk.cell (by assumption) rfl) ?_)
  refine W_cond rfl rfl (fun hb => ?_) (fun hb => ?_)
  · have hlt : k < c.methods.length := by simpa using hb
    have hx : c.methods[k]? = some c.methods[k] := List.getElem?_eq_getElem hlt
    generalize c.methods[k] = x at hx
    obtain ⟨a, cs, rfl, hz, hR, hcs⟩ := hrm.at_ hx
    have hone := MthR.one _ _ _ _ hR
    obtain ⟨c0, h0, rfl, -⟩ := hR
    refine Wg rfl (W_region ?_)
    repeat (first | refine WL1 rfl ?_ | refine WLe rfl rfl ?_ | refine W_region ?_ | refine WL2 inf rfl ?_ | refine WL_ld inf rfl rfl rfl rfl (Blk.cell (by assumption) rfl) ?_)
    refine WL_ix inf rfl rfl rfl rfl rfl (fun _ => ⟨by omega, by omega⟩) ?_
    refine WL_lda inf (cs := Mth.cs x c0 h0) rfl rfl rfl rfl (hcs.cells.ext hE) ?_
    refine WL_alloc inf rfl rfl rfl rfl rfl ?_
    rintro g6 w3 hg6 hB3 hE3
    repeat (first | refine WL1 rfl ?_ | refine WLe rfl rfl ?_ | refine W_region ?_ | refine WL2 inf rfl ?_ | refine WL_ld inf rfl rfl rfl rfl (Blk.cell (by assumption) rfl) ?_)
    refine WL_sta inf (cs' := Mth.cs x c0 h0) rfl rfl rfl rfl hone rfl hB3 rfl ?_
    rintro w4 hB4 u4
    have hE4 : Ext W w4 := u4.ext hE3 (by omega)
    replace hB := hB.ext hE4
    repeat (first | refine WL1 rfl ?_ | refine WLe rfl rfl ?_ | refine W_region ?_ | refine WL2 inf rfl ?_ | refine WL_ld inf rfl rfl rfl rfl (Blk.cell (by assumption) rfl) ?_)
    refine WL_cutL inf rfl rfl rfl rfl rfl (fun _ => ⟨by omega, by omega⟩) ?_
    repeat (first | refine WL1 rfl ?_ | refine WLe rfl rfl ?_ | refine W_region ?_ | refine WL2 inf rfl ?_ | refine WL_ld inf rfl rfl rfl rfl (Blk.cell (by assumption) rfl) ?_)
    refine WL_call rfl rfl rfl rfl rfl enters_cfMth rfl (cfMth_any (cap := [.pointer (some ⟨g6, 0, none⟩)]) (fun n => n.name == x.name && n.desc == x.desc) ((hrm.sl_take (k := k) hk hm1 hm2).ext MthR.mono (hE.then_ hE4)) enters_apart2 (fun W x' cs hW _ _ hx => apart2_any x x' cs c0 h0 g6 W (MthR.mono _ _ _ _ _ _ hx hW.keeps fun _ h => h) (hB4.ext hW))) ?_
    rintro e w5 ⟨rfl, hE5⟩
    refine ⟨_, rfl, ?_⟩
    replace hB := hB.ext hE5
    have hfact : (c.methods.take k).any (fun n => n.name == ((c.methods[k]?).getD runM).name && n.desc == ((c.methods[k]?).getD runM).desc) = (c.methods.take k).any (fun n => n.name == x.name && n.desc == x.desc) := by rw [hx]; rfl
    repeat (first | refine WL1 rfl ?_ | refine WLe rfl rfl ?_ | refine W_region ?_ | refine WL2 inf rfl ?_ | refine WL_ld inf rfl rfl rfl rfl (Blk.cell (by assumption) rfl) ?_)
    refine W_cond rfl rfl (fun hc => ?_) (fun hc => ?_)
    · refine Wg rfl (W_region ?_)
      repeat (first | refine WL1 rfl ?_ | refine WLe rfl rfl ?_ | refine W_region ?_ | refine WL2 inf rfl ?_ | refine WL_ld inf rfl rfl rfl rfl (Blk.cell (by assumption) rfl) ?_)
      refine W_ret1 rfl rfl rfl ⟨ret_bool ?_, (hE.then_ hE4).then_ hE5⟩
      unfold apartD
      rw [range_no (p := fun k => !(c.methods.take k).any fun n => n.name == ((c.methods[k]?).getD runM).name && n.desc == ((c.methods[k]?).getD runM).desc) hlt (by rw [hfact, hc]; rfl), Bool.and_false]
    · refine Wg rfl (W_region ?_)
      refine WL_add rfl rfl rfl rfl rfl rfl rfl (fun _ => by omega) ?_
      repeat (first | refine WL1 rfl ?_ | refine WLe rfl rfl ?_ | refine W_region ?_ | refine WL2 inf rfl ?_ | refine WL_ld inf rfl rfl rfl rfl (Blk.cell (by assumption) rfl) ?_)
      refine WLr rfl (k + 1) (by omega) ⟨hlt, (hE.then_ hE4).then_ hE5, hB, fun i hi => ?_⟩ rfl ⟨rfl, rfl, rfl, rfl, trivial⟩
      rcases Nat.lt_or_eq_of_le (Nat.le_of_lt_succ hi) with h1 | rfl
      · exact hno i h1
      · rw [hfact, hc]; rfl
  · have hk' : k = c.methods.length := by simp at hb; omega
    subst hk'
    refine Wg rfl (W_region ?_)
    repeat (first | refine WL1 rfl ?_ | refine WLe rfl rfl ?_ | refine W_region ?_ | refine WL2 inf rfl ?_ | refine WL_ld inf rfl rfl rfl rfl (Blk.cell (by assumption) rfl) ?_)
    refine W_ret1 rfl rfl rfl ⟨ret_bool ?_, hE⟩
    unfold apartD
    rw [h1st, range_all hno]; rfl
/-- Neither its own super nor, an interface, its own interface. -/
def straightD (P : Option (List Cls)) (c : Cls) : Bool :=
  !((chainD P c.super).contains c.name) && (!c.face || !((spreadF P ((allI P).length + 1) c.name []).contains c.name))
theorem cnt_lt (P : Option (List Cls)) : cnt P [] < (allI P).length + 1 := by
  unfold cnt
  have := List.length_filter_le (fun u => !([] : List L).contains u) (allI P)
  omega
theorem enters_straight : Enters Tryz.prog 59 := enters_of Tryz.func59 (by kernel_rfl) rfl
set_option maxRecDepth 100000 in
set_option maxHeartbeats 4000000 in
theorem straight_any {B : Nat → Prop} (P : Option (List Cls)) (c : Cls) (pv : Value) (cs : List Value) (w : World) (hP : PrgV w pv P) (hs : sizeP P ≤ 1000) (hc : ClsR B w c cs) :
    Calls Tryz.prog 59 #[pv, .agg cs.toArray] w fun e w' => e = .returned (.bool (straightD P c)) ∧ Ext w w' := by
  obtain ⟨iv, fv, mv, rfl, hl1, hl2, -⟩ := hc
  refine calls_W (args := [pv, .agg (Cls.cs c iv fv mv).toArray]) Tryz.func59 rfl rfl rfl ?_
  refine Wg rfl (W_region ?_)
  refine WL_box (cs := Cls.cs c iv fv mv) rfl rfl rfl rfl rfl ?_
  rintro g w1 hg hB hE
  repeat (first | refine WL1 rfl ?_ | refine WLe rfl rfl ?_ | refine W_region ?_ | refine WL2 inf rfl ?_ | refine WL_ld inf rfl rfl rfl rfl (Blk.cell (by assumption) rfl) ?_)
  refine WL_mk rfl rfl rfl ?_
  rintro r w2 hr hm2 hE2
  replace hB := hB.ext hE2
  have z1 := hE.size
  have z2 := hE2.size
  repeat (first | refine WL1 rfl ?_ | refine WLe rfl rfl ?_ | refine W_region ?_ | refine WL2 inf rfl ?_ | refine WL_ld inf rfl rfl rfl rfl (Blk.cell (by assumption) rfl) ?_)
  refine WL_call rfl rfl rfl rfl rfl enters_spread rfl (spread_any P pv w hP hs ((allI P).length + 1) c.name [] r w2 (hE.then_ hE2) (by omega) hm2 hl1 (cnt_lt P)) ?_
  rintro e w3 ⟨rfl, hg3, hm3⟩
  refine ⟨_, rfl, ?_⟩
  have hE3 : Ext w w3 := grown_ext hg3 (hE.then_ hE2) fun b hb => by cases hb; omega
  have hB3 := hB.grown hg3 (fun e => (hm2.ne hB) (Option.some.inj e))
  repeat (first | refine WL1 rfl ?_ | refine WLe rfl rfl ?_ | refine W_region ?_ | refine WL2 inf rfl ?_ | refine WL_ld inf rfl rfl rfl rfl (Blk.cell (by assumption) rfl) ?_)
  have hBd : Blk w3.drew g 44 (Cls.cs c iv fv mv) := hB3
  have hmd : MapAt w3.drew r (ones (spreadF P ((allI P).length + 1) c.name [])) := hm3
  have hEd := hE3.then_ (Ext.drew_ w3)
  refine W_draws (fun W' => Ext w3.drew W') [] mixed_ ?_
  refine WDp 0 rfl (by first | exact stepV_yl _ rfl | exact stepI_yl _ inf rfl) (by kernel_rfl) ?_
  refine WDp 1 rfl (by first | exact stepV_yl _ rfl | exact stepI_yl _ inf rfl) (by kernel_rfl) ?_
  refine WDq 2 rfl (yl_ld inf rfl rfl rfl rfl (fun W' hS => (hBd.ext hS).cell rfl)) (Ext.rfl' _) (by kernel_rfl) ?_
  refine WDp 4 rfl (by first | exact stepV_yl _ rfl | exact stepI_yl _ inf rfl) (by kernel_rfl) ?_
  refine WDq 5 rfl (yl_ld inf rfl rfl rfl rfl (fun W' hS => (hBd.ext hS).cell rfl)) (Ext.rfl' _) (by kernel_rfl) ?_
  refine WDl 3 rfl (by kernel_rfl) (WL_call rfl rfl rfl rfl rfl enters_chain rfl (chain_any P c.super pv _ (hP.ext hEd) hl2 hs) ?_)
  rintro e w4 ⟨cv, rfl, hE4, hown, hcl⟩
  refine ⟨_, rfl, WDc (fun h => h.then_ hE4) ?_⟩
  have hsl : Sl StrR 1 Any_ w4 cv (chainD P c.super) := hown.sl (strEach _ _ _ hcl) fun _ _ => trivial
  refine WDl 6 rfl (by kernel_rfl) (WL_callq rfl rfl rfl rfl rfl enters_hasStr rfl (fun _ => hasStr_any c.name hsl) ?_)
  refine WDc (fun h => h) ?_
  refine WDp 7 rfl (by first | exact stepV_yl _ rfl | exact stepI_yl _ inf rfl) (by kernel_rfl) ?_
  refine WDp 8 rfl (by first | exact stepV_yl _ rfl | exact stepI_yl _ inf rfl) (by kernel_rfl) ?_
  refine WDp 9 rfl (by first | exact stepV_yl _ rfl | exact stepI_yl _ inf rfl) (by kernel_rfl) ?_
  refine WDq 10 rfl (yl_ld inf rfl rfl rfl rfl (fun W' hS => (hBd.ext hS).cell rfl)) hE4 (by kernel_rfl) ?_
  refine WDp 11 rfl (by first | exact stepV_yl _ rfl | exact stepI_yl _ inf rfl) (by kernel_rfl) ?_
  refine WDp 12 rfl (by first | exact stepV_yl _ rfl | exact stepI_yl _ inf rfl) (by kernel_rfl) ?_
  refine WDp 13 rfl (by first | exact stepV_yl _ rfl | exact stepI_yl _ inf rfl) (by kernel_rfl) ?_
  refine WDp 14 rfl (by first | exact stepV_yl _ rfl | exact stepI_yl _ inf rfl) (by kernel_rfl) ?_
  refine WDq 15 rfl (yl_ld inf rfl rfl rfl rfl (fun W' hS => (hBd.ext hS).cell rfl)) hE4 (by kernel_rfl) ?_
  refine WDl 16 rfl (by kernel_rfl) (WL_lk1 rfl rfl rfl mSI rfl (hmd.ext hE4) ?_)
  refine WDc (fun h => h) ?_
  refine WDp 17 rfl (by first | exact stepV_yl _ rfl | exact stepI_yl _ inf rfl) (by kernel_rfl) ?_
  refine WDp 18 rfl (by first | exact stepV_yl _ rfl | exact stepI_yl _ inf rfl) (by kernel_rfl) ?_
  refine WDp 19 rfl (by first | exact stepV_yl _ rfl | exact stepI_yl _ inf rfl) (by kernel_rfl) ?_
  refine WDp 20 rfl (by first | exact stepV_yl _ rfl | exact stepI_yl _ inf rfl) (by kernel_rfl) ?_
  refine WDe (by kernel_rfl) ?_
  repeat (first | refine WL1 rfl ?_ | refine WLe rfl rfl ?_ | refine W_region ?_ | refine WL2 inf rfl ?_ | refine WL_ld inf rfl rfl rfl rfl (Blk.cell (by assumption) rfl) ?_)
  refine W_ret1 rfl rfl rfl ⟨ret_bool ?_, hEd.then_ hE4⟩
  unfold straightD
  rw [lk_ones]
  cases (spreadF P ((allI P).length + 1) c.name []).contains c.name <;> rfl
end Go.Proofs.YtljcmmmajjmpoaaGreatDoor
