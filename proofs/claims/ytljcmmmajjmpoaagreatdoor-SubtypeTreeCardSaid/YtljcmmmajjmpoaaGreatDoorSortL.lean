/- A map's keys as its contents read; texts in order. -/
import Derived.Test.YtljcmmmajjmpoaaGreatDoorLook
import Derived.Shelf.SlIter.Sorted
namespace Go.Proofs.YtljcmmmajjmpoaaGreatDoor
open Go.RowKit Go.Maps Sp
open Go.WideElems (Fit rd rg rg_of rd_mk)
open Go.WideShapes (sorted_perm)

def sortL (l : List L) : List L := l.mergeSort fun x y => decide (x ≤ y)
theorem sortL_perm {l m : List L} (h : l.Perm m) : sortL l = sortL m := mergeSort_of_perm h
theorem sortL_mem {l : List L} {x : L} : x ∈ sortL l ↔ x ∈ l := (List.mergeSort_perm l _).mem_iff
def anyR : Value → Option (DataW Unit × List MemPlace) := fun _ => some (DataW.nil, [])
def keyL (p : Value × Value) : L := match p.1 with | .string s => s.data.toList | _ => []
/-- The map, in the words of the library's contracts. -/
theorem MapAt.owns {P : Program} {kt : TypeId} (hk : P.underlying kt = some .string) {w : World} {r : Nat} {es : List (L × Int)} (h : MapAt w r es) (hl : ∀ p ∈ es, p.1.length ≤ maxLen) (hn : es.length ≤ maxLen) :
    ∃ D : DataW Unit, w.ownsMap P kt anyR r es.length D ∧ (strKeys D).Perm (es.map (·.1)) ∧ Maps.size D = es.length := by
  obtain ⟨arr, clock, hb, he, hst⟩ := h
  have hsz : arr.size = es.length := by have := congrArg List.length he; simpa using this
  have hrd : ∀ x ∈ arr.toList, rd P kt anyR x = some (.string (keyL (x.key, x.val)), DataW.nil) := fun x hx => by
    have h9 : (x.key, x.val) ∈ es.map encE := by rw [← he]; exact List.mem_map.2 ⟨x, hx, rfl⟩
    obtain ⟨p, hp, hpe⟩ := List.mem_map.1 h9
    have h10 : x.key = .string (mkS p.1) := (congrArg Prod.fst hpe).symm
    have hk1 : keyOf P kt x.key = some (.string p.1) := by
      rw [h10]
      exact WideMaps.keyOf_string_mk hk (by rw [mkS_size]; exact hl p hp)
    have hk2 : keyL (x.key, x.val) = p.1 := by rw [h10]; rfl
    rw [hk2]
    obtain ⟨a, b, c⟩ := x
    exact rd_mk (R := anyR) hk1 rfl
  have hF : Fit P kt anyR arr clock := ⟨by omega, hst, fun x hx => ⟨_, hrd x hx⟩⟩
  refine ⟨_, ⟨arr, clock, hb, hF, by omega, rfl⟩, ?_, ?_⟩
  · show (((arr.toList.map (rg P kt anyR)).foldr DataW.insert []).map fun p => strOf p.1).Perm _
    refine ((sorted_perm _).map _).trans ?_
    rw [List.map_map]
    have e1 : arr.toList.map ((fun p : Lit × DataW Unit => strOf p.1) ∘ rg P kt anyR) = (arr.toList.map fun e => (e.key, e.val)).map keyL := by
      rw [List.map_map]
      refine List.map_congr_left fun x hx => ?_
      simp only [Function.comp_apply]
      rw [rg_of (hrd x hx)]
      rfl
    rw [e1, he, List.map_map]
    refine List.Perm.of_eq (List.map_congr_left fun p _ => rfl)
  · show ((arr.toList.map (rg P kt anyR)).foldr DataW.insert []).length = _
    rw [(sorted_perm _).length_eq, List.length_map, Array.length_toList, hsz]
end Go.Proofs.YtljcmmmajjmpoaaGreatDoor
