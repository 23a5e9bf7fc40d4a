/- classfile.OwnMethod, classfile.Own. -/
import Derived.Test.YtljcmmmajjmpoaaGreatDoorClone
namespace Go.Proofs.YtljcmmmajjmpoaaGreatDoor
open Go.RowKit Sp

theorem OwnR.slB {α : Type} {R : Rep α} {e z base : Nat} {w : World} {v : Value} {css : List (List Value)} {xs : List α} {B : Nat → Prop} (h : OwnR base e z w v css) (hR : Each (R B w) xs css) (hB : ∀ b, base ≤ b ∧ b < w.heap.size → B b) : Sl R z B w v xs := h.sl hR fun g hg => hB g (h.own g hg)
theorem enters_ownm : Enters Tryz.prog 92 := enters_of Tryz.func92 (by kernel_rfl) rfl
set_option maxRecDepth 100000 in
set_option maxHeartbeats 4000000 in
theorem ownm_any {B : Nat → Prop} (m : Mth) (cv hv : Value) (w : World) (hm : MthR B w m (Mth.cs m cv hv)) (hs : m.code.length ≤ 549755813888 ∧ m.hand.length ≤ 549755813888) :
    Calls Tryz.prog 92 #[.agg (Mth.cs m cv hv).toArray] w fun e w' => ∃ cv' hv', e = .returned (.agg (Mth.cs m cv' hv').toArray) ∧ Ext w w' ∧ MthR (fun b => w.heap.size ≤ b ∧ b < w'.heap.size) w' m (Mth.cs m cv' hv') := by
  obtain ⟨c', h', heq, hl1, hl2, hsc, hsh⟩ := hm
  obtain ⟨rfl, rfl⟩ : cv = c' ∧ hv = h' := by simp only [Mth.cs, List.cons.injEq, and_true, true_and] at heq; exact heq
  have onec := hsc.one
  have oneh := hsh.one
  refine calls_W (args := [.agg (Mth.cs m cv hv).toArray]) Tryz.func92 rfl rfl rfl ?_
  refine Wg rfl (W_region ?_)
  refine WL_box (cs := Mth.cs m cv hv) rfl rfl rfl rfl rfl ?_
  rintro g w1 hg hB1 hE1
  refine WL_alloc inf rfl rfl rfl rfl rfl ?_
  rintro g2 w2 hg2 hB2 hE2
  have hE := hE1.then_ hE2
  have l1 := hB1.lt
  have l2 := hB2.lt
  have s1 := hE1.size
  have s2 := hE2.size
  replace hB1 := hB1.ext hE2
  repeat (first | refine WL1 rfl ?_ | refine WLe rfl rfl ?_ | refine W_region ?_ | refine WL2 inf rfl ?_ | refine WL_ld inf rfl rfl rfl rfl (Blk.cell (by assumption) rfl) ?_)
  have hd : Ext w w2.drew := hE.then_ (Ext.drew_ w2)
  have sd : w2.drew.heap.size = w2.heap.size := rfl
  refine W_draws (fun W' => Ext w2.drew W') [7, 9] mixed_ ?_
  refine WDp 0 rfl (by first | exact stepV_yl _ rfl | exact stepI_yl _ inf rfl) (by kernel_rfl) ?_
  refine WDq 1 rfl (yl_ld inf rfl rfl rfl rfl (fun W' hS => ((hB1.ext (Ext.drew_ _)).ext hS).cell rfl)) (Ext.rfl' _) (by kernel_rfl) ?_
  refine WDp 3 rfl (by first | exact stepV_yl _ rfl | exact stepI_yl _ inf rfl) (by kernel_rfl) ?_
  refine WDq 4 rfl (yl_ld inf rfl rfl rfl rfl (fun W' hS => ((hB1.ext (Ext.drew_ _)).ext hS).cell rfl)) (Ext.rfl' _) (by kernel_rfl) ?_
  refine WDl 2 rfl (by kernel_rfl) (WL_call rfl rfl rfl rfl rfl enters_cloneIns rfl (cloneIns_any (hsc.ext InsR.mono hd) hs.1) ?_)
  rintro e wa ⟨va, ca, rfl, hEa, hoa, hea⟩
  refine ⟨_, rfl, WDc (fun h => h.then_ hEa) ?_⟩
  refine WDp 6 rfl (by first | exact stepV_yl _ rfl | exact stepI_yl _ inf rfl) (by kernel_rfl) ?_
  refine WDl 5 rfl (by kernel_rfl) (WL_call rfl rfl rfl rfl rfl enters_cloneHnd rfl (cloneHnd_any (hsh.ext HndR.mono (hd.then_ hEa)) hs.2) ?_)
  rintro e wb ⟨vb, cb, rfl, hEb, hob, heb⟩
  refine ⟨_, rfl, WDc (fun h => h.then_ hEb) ?_⟩
  have hBb := ((hB1.ext (Ext.drew_ _)).ext hEa).ext hEb
  have hB2b := ((hB2.ext (Ext.drew_ _)).ext hEa).ext hEb
  have sa := hEa.size
  have sb := hEb.size
  have onea : va.oneCell' = true := by obtain ⟨A, c, rfl⟩ := hoa.val; rfl
  have oneb : vb.oneCell' = true := by obtain ⟨A, c, rfl⟩ := hob.val; rfl
  refine WDl 7 rfl (by kernel_rfl) (WL_st (g := g) (i := 6) inf rfl rfl rfl rfl onea rfl hBb rfl ?_)
  rintro wc hBc uc
  refine WDd (by simp) ?_
  refine WDp 8 rfl (by first | exact stepV_yl _ rfl | exact stepI_yl _ inf rfl) (by kernel_rfl) ?_
  refine WDl 9 rfl (by kernel_rfl) (WL_st (g := g) (i := 7) inf rfl rfl rfl rfl oneb rfl hBc rfl ?_)
  rintro wd hBd ud
  refine WDd (by simp) (WDe (by kernel_rfl) ?_)
  replace hBd : Blk wd g 86 (Mth.cs m va vb) := hBd
  have hB2d := ud.blk (uc.blk hB2b (by omega)) (by omega)
  have hEd : Ext w wd := ud.ext (uc.ext ((hd.then_ hEa).then_ hEb) (by omega)) (by omega)
  repeat (first | refine WL1 rfl ?_ | refine WLe rfl rfl ?_ | refine W_region ?_ | refine WL2 inf rfl ?_ | refine WL_ld inf rfl rfl rfl rfl (Blk.cell (by assumption) rfl) ?_)
  refine WL_lda inf (cs := Mth.cs m va vb) rfl rfl rfl rfl hBd.cells ?_
  refine WL_sta inf (cs' := Mth.cs m va vb) rfl rfl rfl rfl (Mth.one m onea oneb) rfl hB2d rfl ?_
  rintro we hBe ue
  have hoa2 := (((hoa.ext hEb).upd uc (fun e => by have := (hoa.own g e).1; omega)).upd ud (fun e => by have := (hoa.own g e).1; omega)).upd ue (fun e => by have := (hoa.own g2 e).1; omega)
  have hob2 := ((hob.upd uc (fun e => by have := (hob.own g e).1; omega)).upd ud (fun e => by have := (hob.own g e).1; omega)).upd ue (fun e => by have := (hob.own g2 e).1; omega)
  have se : we.heap.size = wb.heap.size := by rw [ue.size, ud.size, uc.size]
  repeat (first | refine WL1 rfl ?_ | refine WLe rfl rfl ?_ | refine W_region ?_ | refine WL2 inf rfl ?_ | refine WL_ld inf rfl rfl rfl rfl (Blk.cell (by assumption) rfl) ?_)
  refine W_retL [.agg (Mth.cs m va vb).toArray] rfl rfl ⟨⟨_, rfl, loadVar_agg inf rfl hBe.cells⟩, trivial⟩ ⟨va, vb, rfl, ue.ext hEd (by omega), va, vb, rfl, hl1, hl2, ?_, ?_⟩
  · exact hoa2.slB (R := InsR) (hea.imp fun x cs h => h) fun b hb => ⟨by omega, by omega⟩
  · exact hob2.slB (R := HndR) (heb.imp fun x cs h => h) fun b hb => ⟨by omega, by omega⟩
end Go.Proofs.YtljcmmmajjmpoaaGreatDoor
