/- link: Look, Supers. -/
import Derived.Test.YtoalmjciodlkaaaGreatSort
namespace Go.Proofs.YtoalmjciodlkaaaGreat
open Go.RowKit Sp

theorem enters_supers : Enters Tryz.prog 62 := enters_of Tryz.func62 (by kernel_rfl) rfl
theorem supers_any (P : Option (List Cls)) (name : L) (pv : Value) (w : World) (hP : PrgV w pv P) (hl : Len name) (hs : sizeP P ≤ 1000) :
    Calls Tryz.prog 62 #[pv, .string (mkS name)] w fun e w' => ∃ v, e = .returned v ∧ Ext w w' ∧ OwnR w.heap.size 9 1 w' v ((chainD P name).map strC) ∧ (∀ s ∈ chainD P name, Len s) := by
  refine calls_W (args := [pv, .string (mkS name)]) Tryz.func62 rfl rfl rfl ?_
  refine Wg rfl (W_region ?_)
  repeat (first | refine WL1 rfl ?_ | refine WLe rfl rfl ?_ | refine W_region ?_ | refine WL2 inf rfl ?_ | refine WL_ld inf rfl rfl rfl rfl (Blk.cell (by assumption) rfl) ?_)
  refine WL_call rfl rfl rfl rfl rfl enters_chain rfl (chain_any P name pv _ hP hl hs) ?_
  rintro e w1 ⟨v, rfl, hE, hown, hcl⟩
  refine ⟨_, rfl, ?_⟩
  repeat (first | refine WL1 rfl ?_ | refine WLe rfl rfl ?_ | refine W_region ?_ | refine WL2 inf rfl ?_ | refine WL_ld inf rfl rfl rfl rfl (Blk.cell (by assumption) rfl) ?_)
  exact W_ret1 rfl rfl rfl ⟨v, rfl, hE, hown, hcl⟩
end Go.Proofs.YtoalmjciodlkaaaGreat
