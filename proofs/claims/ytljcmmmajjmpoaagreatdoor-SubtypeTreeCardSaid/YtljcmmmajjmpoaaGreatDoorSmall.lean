/- The smallest programs, reckoned: sorting by hand, one class in a block. -/
import Derived.Test.YtljcmmmajjmpoaaGreatDoorClasses
namespace Go.Proofs.YtljcmmmajjmpoaaGreatDoor
open Go.RowKit Sp

def insC (x : Cls) : List Cls → List Cls
  | [] => [x]
  | y :: r => if byName x y then x :: y :: r else y :: insC x r
def isort : List Cls → List Cls
  | [] => []
  | x :: r => insC x (isort r)
theorem insC_perm (x : Cls) : ∀ l, (insC x l).Perm (x :: l)
  | [] => .refl _
  | y :: r => by
    unfold insC
    split
    · exact .refl _
    · exact ((insC_perm x r).cons y).trans (.swap x y r)
theorem isort_perm : ∀ l, (isort l).Perm l
  | [] => .refl _
  | x :: r => (insC_perm x _).trans ((isort_perm r).cons x)
theorem insC_sorted (x : Cls) : ∀ l, l.Pairwise (fun a b => byName a b = true) → (insC x l).Pairwise (fun a b => byName a b = true)
  | [], _ => by simp [insC]
  | y :: r, h => by
    unfold insC
    split
    · rename_i hxy
      rw [List.pairwise_cons] at h ⊢
      refine ⟨fun z hz => ?_, List.pairwise_cons.2 h⟩
      rcases List.mem_cons.1 hz with rfl | hz
      · exact hxy
      · exact byName_trans _ _ _ hxy (h.1 z hz)
    · rename_i hxy
      rw [List.pairwise_cons] at h ⊢
      refine ⟨fun z hz => ?_, insC_sorted x r h.2⟩
      rcases List.mem_cons.1 ((insC_perm x r).mem_iff.1 hz) with rfl | hz
      · have := byName_total z y
        simpa [hxy] using this
      · exact h.1 z hz
theorem isort_sorted : ∀ l, (isort l).Pairwise (fun a b => byName a b = true)
  | [] => .nil
  | x :: r => insC_sorted x _ (isort_sorted r)
theorem sortC_isort {l : List Cls} (hn : (l.map (·.name)).Nodup) : sortC l = isort l := (sortC_eq (isort_perm l) hn (isort_sorted l)).symm
theorem oneSl {α : Type} {R : Rep α} {z : Nat} {B : Nat → Prop} {w : World} {h : Nat} {t : TypeId} {x : α} {cs : List Value} (hb : Blk w h t cs) (hR : R B w x cs) (hz : cs.length = z) (hB : B h) : Sl R z B w (.slice (some ⟨h, 0, none⟩) 1 1) [x] := by
  refine ⟨_, _, rfl, Nat.le_refl _, by simp [maxLen], fun i y hy => ?_⟩
  have hi : i = 0 := by
    have := (List.getElem?_eq_some_iff.1 hy).1
    simp at this; exact this
  subst hi
  simp at hy; subst hy
  exact ⟨cs, hz, hR, fun j v hj => ⟨by rw [add_block]; exact hB, by have := hb.cells j v hj; simpa [add_add] using this⟩⟩
end Go.Proofs.YtljcmmmajjmpoaaGreatDoor
