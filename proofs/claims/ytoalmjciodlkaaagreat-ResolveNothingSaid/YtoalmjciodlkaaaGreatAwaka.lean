/- What the smallest program is: reckoned. -/
import Derived.Test.YtoalmjciodlkaaaGreatRese
namespace Go.Proofs.YtoalmjciodlkaaaGreat
open Go.RowKit Sp

def awakeA : Cls := ⟨[65], objectS, false, false, [taskS], [], [⟨runS, voidS, false, false, 0, 1, [retI], []⟩]⟩
def insC (x : Cls) : List Cls → List Cls
  | [] => [x]
  | y :: r => if byName x y then x :: y :: r else y :: insC x r
def isort : List Cls → List Cls
  | [] => []
  | x :: r => insC x (isort r)
theorem insC_perm (x : Cls) : ∀ l, (insC x l).Perm (x :: l)
  | [] => .refl _
  | y :: r => by
    unfold insC
    split
    · exact .refl _
    · exact ((insC_perm x r).cons y).trans (.swap x y r)
theorem isort_perm : ∀ l, (isort l).Perm l
  | [] => .refl _
  | x :: r => (insC_perm x _).trans ((isort_perm r).cons x)
theorem insC_sorted (x : Cls) : ∀ l, l.Pairwise (fun a b => byName a b = true) → (insC x l).Pairwise (fun a b => byName a b = true)
  | [], _ => by simp [insC]
  | y :: r, h => by
    unfold insC
    split
    · rename_i hxy
      rw [List.pairwise_cons] at h ⊢
      refine ⟨fun z hz => ?_, List.pairwise_cons.2 h⟩
      rcases List.mem_cons.1 hz with rfl | hz
      · exact hxy
      · exact byName_trans _ _ _ hxy (h.1 z hz)
    · rename_i hxy
      rw [List.pairwise_cons] at h ⊢
      refine ⟨fun z hz => ?_, insC_sorted x r h.2⟩
      rcases List.mem_cons.1 ((insC_perm x r).mem_iff.1 hz) with rfl | hz
      · have := byName_total z y
        simpa [hxy] using this
      · exact h.1 z hz
theorem isort_sorted : ∀ l, (isort l).Pairwise (fun a b => byName a b = true)
  | [] => .nil
  | x :: r => insC_sorted x _ (isort_sorted r)
theorem sortC_isort {l : List Cls} (hn : (l.map (·.name)).Nodup) : sortC l = isort l := (sortC_eq (isort_perm l) hn (isort_sorted l)).symm
def awakeP : List Cls := isort (builtinD ++ [awakeA])
theorem awake_nodup : ((builtinD ++ [awakeA]).map (·.name)).Nodup := by decide +kernel
theorem awake_prog : progD [awakeA] = awakeP := sortC_isort awake_nodup
theorem awake_check : checkC awakeA = 0 := by decide +kernel
theorem awake_doubled : doubledD [awakeA] = none := by decide +kernel
end Go.Proofs.YtoalmjciodlkaaaGreat
