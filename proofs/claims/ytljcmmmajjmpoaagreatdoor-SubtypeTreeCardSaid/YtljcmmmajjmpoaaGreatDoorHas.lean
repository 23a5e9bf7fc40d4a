/- link: Has. -/
import Derived.Test.YtljcmmmajjmpoaaGreatDoorDoubled
namespace Go.Proofs.YtljcmmmajjmpoaaGreatDoor
open Go.RowKit Sp

def hasM (name d : L) (m : Mth) : Bool := m.name == name && m.desc == d && !m.stat && !m.abst
theorem enters_has11 : Enters Tryz.prog 140 := enters_of Tryz.func140 (by kernel_rfl) rfl
theorem has11_any {B : Nat → Prop} (name d : L) (m : Mth) (cs : List Value) (g1 g2 : Nat) (w : World) (hm : MthR B w m cs) (h1 : Blk w g1 9 [.string (mkS name)]) (h2 : Blk w g2 9 [.string (mkS d)]) :
    Calls Tryz.prog 140 #[.agg cs.toArray, .pointer (some ⟨g1, 0, none⟩), .pointer (some ⟨g2, 0, none⟩)] w fun e w' => e = .returned (.bool (hasM name d m)) ∧ Ext w w' := by
  obtain ⟨c, h, rfl, -⟩ := hm
  refine calls_W (args := [.agg (Mth.cs m c h).toArray, .pointer (some ⟨g1, 0, none⟩), .pointer (some ⟨g2, 0, none⟩)]) Tryz.func140 rfl rfl rfl ?_
  refine Wg rfl (W_region ?_)
  refine WL_box (cs := Mth.cs m c h) rfl rfl rfl rfl rfl ?_
  rintro g w1 hg hB hE
  replace h1 := h1.ext hE
  replace h2 := h2.ext hE
  repeat (first | refine WL1 rfl ?_ | refine WLe rfl rfl ?_ | refine W_region ?_ | refine WL2 inf rfl ?_ | refine WL_ld inf rfl rfl rfl rfl (Blk.cell (by assumption) rfl) ?_)
  exact W_ret1 rfl rfl rfl ⟨rfl, hE⟩
theorem enters_has1 : Enters Tryz.prog 139 := enters_of Tryz.func139 (by kernel_rfl) rfl
theorem has1_any (P : Option (List Cls)) (s name d : L) (pv : Value) (g0 g1 g2 : Nat) (w : World) (hP : PrgV w pv P) (h0 : Blk w g0 26 [pv]) (h1 : Blk w g1 9 [.string (mkS name)]) (h2 : Blk w g2 9 [.string (mkS d)]) :
    Calls Tryz.prog 139 #[.string (mkS s), .pointer (some ⟨g0, 0, none⟩), .pointer (some ⟨g1, 0, none⟩), .pointer (some ⟨g2, 0, none⟩)] w fun e w' => e = .returned (.bool (((findP P s).getD zeroC).methods.any (hasM name d))) ∧ Ext w w' := by
  refine calls_W (args := [.string (mkS s), .pointer (some ⟨g0, 0, none⟩), .pointer (some ⟨g1, 0, none⟩), .pointer (some ⟨g2, 0, none⟩)]) Tryz.func139 rfl rfl rfl ?_
  refine Wg rfl (W_region ?_)
  repeat (first | refine WL1 rfl ?_ | refine WLe rfl rfl ?_ | refine W_region ?_ | refine WL2 inf rfl ?_ | refine WL_ld inf rfl rfl rfl rfl (Blk.cell (by assumption) rfl) ?_)
  refine WL_call rfl rfl rfl rfl rfl enters_find rfl (find_any P s pv _ hP) ?_
  rintro e w2 ⟨cl, rfl, hE2, hR⟩
  refine ⟨_, rfl, ?_⟩
  have hone := ClsR.one _ _ _ _ hR
  have hR0 := hR
  obtain ⟨i', f', m', rfl, -⟩ := hR
  repeat (first | refine WL1 rfl ?_ | refine WLe rfl rfl ?_ | refine W_region ?_ | refine WL2 inf rfl ?_ | refine WL_ld inf rfl rfl rfl rfl (Blk.cell (by assumption) rfl) ?_)
  refine WL_alloc inf rfl rfl rfl rfl rfl ?_
  rintro g6 w3 hg6 hB3 hE3
  refine WL_sta inf (cs' := Cls.cs ((findP P s).getD zeroC) i' f' m') rfl rfl rfl rfl hone rfl hB3 rfl ?_
  rintro w4 hB4 u4
  have hE24 : Ext w2 w4 := u4.ext hE3 (by omega)
  have hE4 := hE2.then_ hE24
  have hR4 := ClsR.mono _ _ _ _ _ _ hR0 hE4.keeps fun _ h => h
  obtain ⟨i2, f2, m2, heq, -, -, -, -, hsm⟩ := hR4
  obtain ⟨rfl, rfl, rfl⟩ : i' = i2 ∧ f' = f2 ∧ m' = m2 := by simp only [Cls.cs, List.cons.injEq, and_true, true_and] at heq; exact heq
  replace h1 := h1.ext hE4
  replace h2 := h2.ext hE4
  repeat (first | refine WL1 rfl ?_ | refine WLe rfl rfl ?_ | refine W_region ?_ | refine WL2 inf rfl ?_ | refine WL_ld inf rfl rfl rfl rfl (Blk.cell (by assumption) rfl) ?_)
  refine WL_call rfl rfl rfl rfl rfl enters_cfMth rfl (cfMth_any (cap := [.pointer (some ⟨g1, 0, none⟩), .pointer (some ⟨g2, 0, none⟩)]) (hasM name d) hsm enters_has11 (fun W x cs hW _ _ hx => has11_any name d x cs g1 g2 W (MthR.mono _ _ _ _ _ _ hx hW.keeps fun _ h => h) (h1.ext hW) (h2.ext hW))) ?_
  rintro e w5 ⟨rfl, hE5⟩
  refine ⟨_, rfl, ?_⟩
  repeat (first | refine WL1 rfl ?_ | refine WLe rfl rfl ?_ | refine W_region ?_ | refine WL2 inf rfl ?_ | refine WL_ld inf rfl rfl rfl rfl (Blk.cell (by assumption) rfl) ?_)
  exact W_ret1 rfl rfl rfl ⟨rfl, hE4.then_ hE5⟩
def hasD (P : Option (List Cls)) (cls name d : L) : Option L := (chainD P cls).find? fun s => ((findP P s).getD zeroC).methods.any (hasM name d)
theorem enters_has : Enters Tryz.prog 103 := enters_of Tryz.func103 (by kernel_rfl) rfl
set_option maxHeartbeats 4000000 in
theorem has_any (P : Option (List Cls)) (cls name d : L) (pv : Value) (w : World) (hpc : pv.oneCell' = true) (hP : PrgV w pv P) (hs : sizeP P ≤ 1000) (hl : Len cls) :
    Calls Tryz.prog 103 #[pv, .string (mkS cls), .string (mkS name), .string (mkS d)] w fun e w' => e = .returned (.tuple #[.string (mkS ((hasD P cls name d).getD [])), .bool (hasD P cls name d).isSome]) ∧ Ext w w' := by
  have hcells : pv.cells = [pv].toArray := by cases pv <;> first | rfl | cases hpc
  refine calls_W (args := [pv, .string (mkS cls), .string (mkS name), .string (mkS d)]) Tryz.func103 rfl rfl rfl ?_
  refine Wg rfl (W_region ?_)
  refine WL_box (cs := [pv]) rfl rfl hcells rfl rfl ?_
  rintro g4 w1 hg4 hB4 hE1
  refine WL_box (cs := [.string (mkS name)]) rfl rfl rfl rfl rfl ?_
  rintro g6 w2 hg6 hB6 hE2
  refine WL_box (cs := [.string (mkS d)]) rfl rfl rfl rfl rfl ?_
  rintro g7 w3 hg7 hB7 hE3
  replace hB4 := (hB4.ext hE2).ext hE3
  replace hB6 := hB6.ext hE3
  have hE := (hE1.then_ hE2).then_ hE3
  repeat (first | refine WL1 rfl ?_ | refine WLe rfl rfl ?_ | refine W_region ?_ | refine WL2 inf rfl ?_ | refine WL_ld inf rfl rfl rfl rfl (Blk.cell (by assumption) rfl) ?_)
  refine WL_call rfl rfl rfl rfl rfl enters_chain rfl (chain_any P cls pv _ (hP.ext hE) hl hs) ?_
  rintro e w4 ⟨cv, rfl, hE4, hown, hcl⟩
  refine ⟨_, rfl, ?_⟩
  replace hB4 := hB4.ext hE4
  replace hB6 := hB6.ext hE4
  replace hB7 := hB7.ext hE4
  have hE04 := hE.then_ hE4
  have hsl : Sl StrR 1 Any_ w4 cv (chainD P cls) := hown.sl (strEach _ _ _ hcl) fun _ _ => trivial
  repeat (first | refine WL1 rfl ?_ | refine WLe rfl rfl ?_ | refine W_region ?_ | refine WL2 inf rfl ?_ | refine WL_ld inf rfl rfl rfl rfl (Blk.cell (by assumption) rfl) ?_)
  refine WL_call rfl rfl rfl rfl rfl enters_ixfL rfl (ixfL_any (cap := [.pointer (some ⟨g4, 0, none⟩), .pointer (some ⟨g6, 0, none⟩), .pointer (some ⟨g7, 0, none⟩)]) (fun s => ((findP P s).getD zeroC).methods.any (hasM name d)) hsl enters_has1 (fun W x hW _ _ => has1_any P x name d pv g4 g6 g7 W (hP.ext (hE04.then_ hW)) (hB4.ext hW) (hB6.ext hW) (hB7.ext hW))) ?_
  rintro e w5 ⟨rfl, hE5⟩
  refine ⟨_, rfl, ?_⟩
  obtain ⟨A, cp, rfl⟩ := hown.val
  rw [List.length_map]
  repeat (first | refine WL1 rfl ?_ | refine WLe rfl rfl ?_ | refine W_region ?_ | refine WL2 inf rfl ?_ | refine WL_ld inf rfl rfl rfl rfl (Blk.cell (by assumption) rfl) ?_)
  refine W_cond rfl rfl (fun hb => ?_) (fun hb => ?_)
  · have hn : hasD P cls name d = none := by
      have h1 : ixI (fun s => ((findP P s).getD zeroC).methods.any (hasM name d)) (chainD P cls) < 0 := of_decide_eq_true hb
      unfold hasD
      rw [List.find?_eq_none]
      intro x hx hh
      have h2 := ixI_any (fun s => ((findP P s).getD zeroC).methods.any (hasM name d)) (chainD P cls)
      have h3 : (chainD P cls).any (fun s => ((findP P s).getD zeroC).methods.any (hasM name d)) = true := List.any_eq_true.2 ⟨x, hx, hh⟩
      rw [h3] at h2
      have := of_decide_eq_true h2
      omega
    refine Wg rfl (W_region ?_)
    repeat (first | refine WL1 rfl ?_ | refine WLe rfl rfl ?_ | refine W_region ?_ | refine WL2 inf rfl ?_ | refine WL_ld inf rfl rfl rfl rfl (Blk.cell (by assumption) rfl) ?_)
    refine W_ret2 rfl rfl rfl rfl ⟨?_, hE04.then_ hE5⟩
    rw [hn]; rfl
  · have h1 : ¬ ixI (fun s => ((findP P s).getD zeroC).methods.any (hasM name d)) (chainD P cls) < 0 := of_decide_eq_false hb
    obtain ⟨k, hk⟩ : ∃ k, (chainD P cls).findIdx? (fun s => ((findP P s).getD zeroC).methods.any (hasM name d)) = some k := by
      cases h : (chainD P cls).findIdx? (fun s => ((findP P s).getD zeroC).methods.any (hasM name d)) with
      | none => unfold ixI at h1; rw [h] at h1; exact absurd (by decide) h1
      | some k => exact ⟨k, rfl⟩
    have hix : ixI (fun s => ((findP P s).getD zeroC).methods.any (hasM name d)) (chainD P cls) = (k : Int) := by unfold ixI; rw [hk]
    obtain ⟨hlt, hp1, hp2⟩ := List.findIdx?_eq_some_iff_getElem.1 hk
    have hx : (chainD P cls)[k]? = some (chainD P cls)[k] := List.getElem?_eq_getElem hlt
    have hf : hasD P cls name d = some (chainD P cls)[k] := by
      unfold hasD
      rw [List.find?_eq_some_iff_getElem]
      exact ⟨hp1, k, hlt, rfl, fun j hj => by have := hp2 j hj; simpa using this⟩
    generalize (chainD P cls)[k] = x at hx hf
    obtain ⟨g, c', hv, hge, hgl, hcl2⟩ := (hown.ext hE5).cells (i := k) (cs := strC x) (by rw [List.getElem?_map, hx]; rfl)
    have hA : A = some ⟨g, 0, none⟩ := congrArg (fun v => match v with | Value.slice A _ _ => A | _ => none) hv
    subst hA
    refine Wg rfl (W_region ?_)
    repeat (first | refine WL1 rfl ?_ | refine WLe rfl rfl ?_ | refine W_region ?_ | refine WL2 inf rfl ?_ | refine WL_ld inf rfl rfl rfl rfl (Blk.cell (by assumption) rfl) ?_)
    refine WL_ix inf rfl rfl rfl rfl rfl (fun _ => by rw [hix]; omega) ?_
    refine WL_ld inf rfl rfl rfl rfl (v := .string (mkS x)) (by rw [hix]; exact hcl2.at_ (j := 0) rfl) ?_
    repeat (first | refine WL1 rfl ?_ | refine WLe rfl rfl ?_ | refine W_region ?_ | refine WL2 inf rfl ?_ | refine WL_ld inf rfl rfl rfl rfl (Blk.cell (by assumption) rfl) ?_)
    refine W_ret2 rfl rfl rfl rfl ⟨?_, hE04.then_ hE5⟩
    rw [hf]; rfl
end Go.Proofs.YtljcmmmajjmpoaaGreatDoor
