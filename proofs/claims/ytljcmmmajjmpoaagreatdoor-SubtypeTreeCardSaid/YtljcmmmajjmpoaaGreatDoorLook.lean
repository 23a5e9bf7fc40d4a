/- link: Look, Supers. -/
import Derived.Test.YtljcmmmajjmpoaaGreatDoorSort
namespace Go.Proofs.YtljcmmmajjmpoaaGreatDoor
open Go.RowKit Sp

theorem enters_supers : Enters Tryz.prog 30 := enters_of Tryz.func30 (by kernel_rfl) rfl
theorem supers_any (P : Option (List Cls)) (name : L) (pv : Value) (w : World) (hP : PrgV w pv P) (hl : Len name) (hs : sizeP P ≤ 1000) :
    Calls Tryz.prog 30 #[pv, .string (mkS name)] w fun e w' => ∃ v, e = .returned v ∧ Ext w w' ∧ OwnR w.heap.size 9 1 w' v ((chainD P name).map strC) ∧ (∀ s ∈ chainD P name, Len s) := by
  refine calls_W (args := [pv, .string (mkS name)]) Tryz.func30 rfl rfl rfl ?_
  refine Wg rfl (W_region ?_)
  repeat (first | refine WL1 rfl ?_ | refine WLe rfl rfl ?_ | refine W_region ?_ | refine WL2 inf rfl ?_ | refine WL_ld inf rfl rfl rfl rfl (Blk.cell (by assumption) rfl) ?_)
  refine WL_call rfl rfl rfl rfl rfl enters_chain rfl (chain_any P name pv _ hP hl hs) ?_
  rintro e w1 ⟨v, rfl, hE, hown, hcl⟩
  refine ⟨_, rfl, ?_⟩
  repeat (first | refine WL1 rfl ?_ | refine WLe rfl rfl ?_ | refine W_region ?_ | refine WL2 inf rfl ?_ | refine WL_ld inf rfl rfl rfl rfl (Blk.cell (by assumption) rfl) ?_)
  exact W_ret1 rfl rfl rfl ⟨v, rfl, hE, hown, hcl⟩
def zCv : List Value := Cls.cs zeroC (.slice none 0 0) (.slice none 0 0) (.slice none 0 0)
theorem enters_look : Enters Tryz.prog 36 := enters_of Tryz.func36 (by kernel_rfl) rfl
theorem look_any (P : Option (List Cls)) (s : L) (pv : Value) (w : World) (hP : PrgV w pv P) :
    Calls Tryz.prog 36 #[pv, .string (mkS s)] w fun e w' => ∃ cells, e = .returned (.tuple #[.agg cells.toArray, .bool (findP P s).isSome]) ∧ Ext w w' ∧ ClsR Any_ w ((findP P s).getD zeroC) cells := by
  refine calls_W (args := [pv, .string (mkS s)]) Tryz.func36 rfl rfl rfl ?_
  refine Wg rfl (W_region ?_)
  refine WL_alloc inf (cs := zCv) rfl rfl rfl rfl rfl ?_
  rintro g w1 hg hB hE
  repeat (first | refine WL1 rfl ?_ | refine WLe rfl rfl ?_ | refine W_region ?_ | refine WL2 inf rfl ?_ | refine WL_ld inf rfl rfl rfl rfl (Blk.cell (by assumption) rfl) ?_)
  refine WL_call rfl rfl rfl rfl rfl enters_find rfl (find_at P s pv w _ hP hE) ?_
  rintro e w2 ⟨cl, rfl, hE2, hR⟩
  refine ⟨_, rfl, ?_⟩
  have hz := hR.len
  replace hB := hB.ext hE2
  repeat (first | refine WL1 rfl ?_ | refine WLe rfl rfl ?_ | refine W_region ?_ | refine WL2 inf rfl ?_ | refine WL_ld inf rfl rfl rfl rfl (Blk.cell (by assumption) rfl) ?_)
  refine WL_sta inf (cs' := cl) rfl rfl rfl (by rw [hz]; rfl) (ClsR.one _ _ _ _ hR) rfl hB (by rw [hz]; rfl) ?_
  rintro w3 hB3 u3
  repeat (first | refine WL1 rfl ?_ | refine WLe rfl rfl ?_ | refine W_region ?_ | refine WL2 inf rfl ?_ | refine WL_ld inf rfl rfl rfl rfl (Blk.cell (by assumption) rfl) ?_)
  exact W_retL [.agg cl.toArray, .bool (findP P s).isSome] rfl rfl ⟨⟨_, rfl, loadVar_agg inf (by rw [hz]; rfl) hB3.cells⟩, rfl, trivial⟩ ⟨cl, rfl, u3.ext (hE.then_ hE2) (by omega), hR⟩
end Go.Proofs.YtljcmmmajjmpoaaGreatDoor
