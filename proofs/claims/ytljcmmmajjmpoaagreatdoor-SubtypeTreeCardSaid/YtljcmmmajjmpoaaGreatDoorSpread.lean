/- link: spread. -/
import Derived.Test.YtljcmmmajjmpoaaGreatDoorPrg
namespace Go.Proofs.YtljcmmmajjmpoaaGreatDoor
open Go.RowKit Sp

theorem cell_not_map {w : World} {r : Nat} {es : List (L × Int)} (hm : MapAt w r es) {a : Addr} {v : Value} (hc : w.cell? a = some v) : a.block ≠ r := fun e => by
  obtain ⟨arr, clock, hb, _⟩ := hm
  unfold World.cell? at hc
  rw [e, hb] at hc
  cases hc
theorem keepsMap {w w1 : World} {r : Nat} {es : List (L × Int)} {B : Nat → Prop} (hm : MapAt w r es) (h : w.grownBy w1 (some r)) : Keeps B w w1 := fun a v _ hc => (World.cell?_of_block (h.block a.block (World.block_lt_of_cell? w a hc) fun e => cell_not_map hm hc (Option.some.inj e))).trans hc
theorem Ext.gr {w w1 : World} (h : Ext w w1) (row : Option Nat) : w.grownBy w1 row := ⟨h.os, h.tape, h.output, h.size, fun k hk _ => h.block k hk⟩
theorem Upd.gr {w w1 : World} {r : Nat} (h : Upd r w w1) : w.grownBy w1 (some r) := ⟨h.os, h.tape, h.output, Nat.le_of_eq h.size.symm, fun k _ hne => h.block k fun e => hne (by rw [e])⟩
def ones (S : List L) : List (L × Int) := S.map fun s => (s, 1)
theorem lk_ones : ∀ (S : List L) (i : L), lkD (ones S) i = if S.contains i then some 1 else none
  | [], _ => rfl
  | s :: r, i => by
    have ih := lk_ones r i
    unfold ones at ih ⊢
    simp only [List.map_cons, lkD, List.contains_cons]
    by_cases h : s = i
    · subst h; simp
    · rw [if_neg h, ih]
      have : (i == s) = false := by simp; exact fun e => h e.symm
      rw [this, Bool.false_or]
theorem put_ones : ∀ (S : List L) (i : L), S.contains i = false → putD (ones S) i 1 = ones (S ++ [i])
  | [], _, _ => rfl
  | s :: r, i, h => by
    have h1 : ¬ s = i := fun e => by subst e; simp at h
    have h2 : r.contains i = false := by
      simp only [List.contains_cons, Bool.or_eq_false_iff] at h
      exact h.2
    have ih := put_ones r i h2
    unfold ones at ih ⊢
    simp only [List.map_cons, putD, List.cons_append, if_neg h1, ih]
def implP (P : Option (List Cls)) (s : L) : List L := ((findP P s).getD zeroC).impl
/-- What spread makes of the names that are there. -/
def spreadF (P : Option (List Cls)) : Nat → L → List L → List L
  | 0, _, S => S
  | n + 1, name, S => (chainD P name).foldl (fun S s => (implP P s).foldl (fun S i => if S.contains i then S else spreadF P n i (S ++ [i])) S) S
def allI (P : Option (List Cls)) : List L := (P.getD []).flatMap (·.impl)
def cnt (P : Option (List Cls)) (S : List L) : Nat := ((allI P).filter fun u => !S.contains u).length
theorem filter_le {S T : List L} (h : ∀ x ∈ S, x ∈ T) : ∀ l : List L, (l.filter fun u => !T.contains u).length ≤ (l.filter fun u => !S.contains u).length
  | [] => Nat.le_refl _
  | a :: r => by
    have ih := filter_le h r
    simp only [List.filter_cons]
    by_cases h1 : S.contains a = true
    · have h2 : T.contains a = true := by simpa using h a (by simpa using h1)
      simp only [h1, h2, Bool.not_true, Bool.false_eq_true, if_false]; exact ih
    · simp only [Bool.not_eq_true] at h1
      simp only [h1, Bool.not_false, if_true]
      split <;> first | omega | (simp only [List.length_cons]; omega)
theorem filter_lt {S : List L} {i : L} (hi : S.contains i = false) : ∀ l : List L, i ∈ l → (l.filter fun u => !(S ++ [i]).contains u).length < (l.filter fun u => !S.contains u).length
  | [], h => by cases h
  | a :: r, h => by
    have hle := filter_le (S := S) (T := S ++ [i]) (fun x hx => by simp [hx]) r
    simp only [List.filter_cons]
    by_cases ha : a = i
    · subst ha
      have : (S ++ [a]).contains a = true := by simp
      simp only [this, hi, Bool.not_true, Bool.not_false, Bool.false_eq_true, if_false, if_true, List.length_cons]
      omega
    · have hr : i ∈ r := by
        rcases List.mem_cons.1 h with h | h
        · exact absurd h.symm ha
        · exact h
      have ih := filter_lt hi r hr
      have : (S ++ [i]).contains a = S.contains a := by
        rw [Bool.eq_iff_iff]; simp [ha]
      rw [this]
      split <;> first | omega | (simp only [List.length_cons]; omega)
theorem cnt_le {P : Option (List Cls)} {S T : List L} (h : ∀ x ∈ S, x ∈ T) : cnt P T ≤ cnt P S := filter_le h _
theorem implP_all {P : Option (List Cls)} {s i : L} (h : i ∈ implP P s) : i ∈ allI P := by
  unfold implP at h
  cases hf : findP P s with
  | none => rw [hf] at h; simp [zeroC] at h
  | some c =>
    rw [hf] at h
    exact List.mem_flatMap.2 ⟨c, (findP_mem hf).1, h⟩
theorem spreadF_sub (P : Option (List Cls)) : ∀ (n : Nat) (name : L) (S : List L), ∀ x ∈ S, x ∈ spreadF P n name S
  | 0, _, _, x, hx => hx
  | n + 1, name, S, x, hx => by
    unfold spreadF
    have inner : ∀ (l : List L) (S : List L), x ∈ S → x ∈ l.foldl (fun S i => if S.contains i then S else spreadF P n i (S ++ [i])) S := by
      intro l
      induction l with
      | nil => intro S h; exact h
      | cons i r ih =>
        intro S h
        refine ih _ ?_
        dsimp only
        split
        · exact h
        · exact spreadF_sub P n i _ x (by simp [h])
    have outer : ∀ (l : List L) (S : List L), x ∈ S → x ∈ l.foldl (fun S s => (implP P s).foldl (fun S i => if S.contains i then S else spreadF P n i (S ++ [i])) S) S := by
      intro l
      induction l with
      | nil => intro S h; exact h
      | cons s r ih => intro S h; exact ih _ (inner _ _ h)
    exact outer _ _ hx
end Go.Proofs.YtljcmmmajjmpoaaGreatDoor
