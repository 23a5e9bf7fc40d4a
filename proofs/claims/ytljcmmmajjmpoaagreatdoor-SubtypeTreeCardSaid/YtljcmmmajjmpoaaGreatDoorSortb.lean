/- slices.SortFunc at classes, by name. -/
import Derived.Test.YtljcmmmajjmpoaaGreatDoorIface
namespace Go.Proofs.YtljcmmmajjmpoaaGreatDoor
open Go.RowKit Go.Sort Go.Shelf Sp

def byName (x y : Cls) : Bool := decide (x.name ≤ y.name)
def sortC (l : List Cls) : List Cls := l.mergeSort byName
theorem byName_trans (a b c : Cls) (h1 : byName a b = true) (h2 : byName b c = true) : byName a c = true := by
  simp only [byName, decide_eq_true_eq] at *; exact List.le_trans h1 h2
theorem byName_total (a b : Cls) : (byName a b || byName b a) = true := by
  simp only [byName, Bool.or_eq_true, decide_eq_true_eq]; exact List.le_total _ _
theorem names_inj : ∀ {l : List Cls} {a b : Cls}, (l.map (·.name)).Nodup → a ∈ l → b ∈ l → a.name = b.name → a = b
  | c :: r, a, b, h, ha, hb, he => by
    rw [List.map_cons, List.nodup_cons] at h
    rcases List.mem_cons.1 ha with rfl | ha' <;> rcases List.mem_cons.1 hb with rfl | hb'
    · rfl
    · exact absurd (List.mem_map.2 ⟨b, hb', he.symm⟩) h.1
    · exact absurd (List.mem_map.2 ⟨a, ha', he⟩) h.1
    · exact names_inj h.2 ha' hb' he
theorem sortC_eq {l m : List Cls} (hp : m.Perm l) (hn : (l.map (·.name)).Nodup) (hs : m.Pairwise fun a b => byName a b = true) : m = sortC l :=
  List.Perm.eq_of_pairwise (le := fun a b => byName a b = true) (fun a b ha hb h1 h2 => by
    simp only [byName, decide_eq_true_eq] at h1 h2
    exact names_inj hn (hp.mem_iff.1 ha) ((List.mergeSort_perm l byName).mem_iff.1 hb) (List.le_antisymm h1 h2)) hs (List.pairwise_mergeSort byName_trans byName_total l) (hp.trans (List.mergeSort_perm l byName).symm)

theorem sl_hdr {α : Type} {R : Rep α} {z : Nat} {B : Nat → Prop} {w : World} {v : Value} {xs : List α} (h : Sl R z B w v xs) : ∃ x, v = hdr x := by
  obtain ⟨A, c, rfl, _⟩ := h
  exact ⟨(A, xs.length, c), rfl⟩
/-- Each class's cells are of one form. -/
theorem each_sc {B : Nat → Prop} {w : World} : ∀ {xs : List Cls} {css : List (List Value)}, Each (ClsR B w) xs css → ∃ d : List SC, d.map (·.c) = xs ∧ d.map SC.enc = css ∧ ∀ s ∈ d, ClsR B w s.c s.enc
  | [], [], _ => ⟨[], rfl, rfl, fun s hs => by cases hs⟩
  | x :: xs, cs :: css, h => by
    obtain ⟨d, h1, h2, h3⟩ := each_sc h.2
    obtain ⟨i, f, m, he, hr⟩ := h.1
    have hr0 := h.1
    obtain ⟨-, -, hi, hf, hm⟩ := hr
    obtain ⟨i', rfl⟩ := sl_hdr hi
    obtain ⟨f', rfl⟩ := sl_hdr hf
    obtain ⟨m', rfl⟩ := sl_hdr hm
    have he2 : (⟨x, i', f', m'⟩ : SC).enc = cs := he.symm
    refine ⟨⟨x, i', f', m'⟩ :: d, by simp [h1], by rw [List.map_cons, he2, h2], fun s hs => ?_⟩
    rcases List.mem_cons.1 hs with rfl | hs
    · rw [he2]; exact hr0
    · exact h3 s hs
theorem sc_each {B : Nat → Prop} {w : World} : ∀ {d : List SC}, (∀ s ∈ d, ClsR B w s.c s.enc) → Each (ClsR B w) (d.map (·.c)) (d.map SC.enc)
  | [], _ => trivial
  | s :: d, h => ⟨h s (by simp), sc_each fun t ht => h t (by simp [ht])⟩
theorem flat_enc (d : List SC) : (flatK SC.enc 7 d.toArray).toList = (d.map SC.enc).flatten := by
  have hz : ∀ cs ∈ d.map SC.enc, cs.length = 7 := fun cs hcs => by obtain ⟨s, _, rfl⟩ := List.mem_map.1 hcs; exact SC.len s
  have hfl : (d.map SC.enc).flatten.length = d.length * 7 := by
    clear hz
    induction d with
    | nil => rfl
    | cons s r ih => rw [List.map_cons, List.flatten_cons, List.length_append, ih, SC.len, List.length_cons]; omega
  apply List.ext_getElem?
  intro t
  by_cases ht : t < d.length * 7
  · have hq : t / 7 < d.length := by omega
    have hr : t % 7 < (SC.enc d[t / 7]).length := by rw [SC.len]; omega
    have h1 := flatten_at (z := 7) (css := d.map SC.enc) (i := t / 7) (j := t % 7) (cs := SC.enc d[t / 7]) (v := (SC.enc d[t / 7])[t % 7]) hz (by simp [hq]) (List.getElem?_eq_getElem hr)
    have ht2 : t < (flatK SC.enc 7 d.toArray).size := by simp [flatK]; exact ht
    rw [show t / 7 * 7 + t % 7 = t by omega] at h1
    rw [h1, Array.getElem?_toList, Array.getElem?_eq_getElem ht2]
    have h2 := get_flatK SC.enc 7 d.toArray t (by simpa using ht)
    rw [getElem!_pos (flatK SC.enc 7 d.toArray) t ht2] at h2
    rw [h2]
    have h3 : (d.toArray)[t / 7]! = d[t / 7] := by simp [hq]
    rw [h3, getElem!_pos (SC.enc d[t / 7]) _ hr]
  · rw [List.getElem?_eq_none (by simp [flatK]; omega), List.getElem?_eq_none (by omega)]
theorem enters_sfCls : Enters Tryz.prog 54 := enters_of Tryz.func54 (by kernel_rfl) rfl
theorem putFlat {cur F : Array Value} {n : Nat} (hF : F.size = n) (hn : n ≤ cur.size) : (putCells id 0 F cur).toList.take n = F.toList := by
  subst hF
  apply List.ext_getElem?
  intro j
  by_cases hj : j < F.size
  · rw [List.getElem?_take_of_lt hj, Array.getElem?_toList]
    simp [putCells, hj, show j < cur.size by omega]
  · rw [List.getElem?_take_eq_none (by omega), List.getElem?_eq_none (by simp; omega)]
set_option maxHeartbeats 2000000 in
theorem sfCls_any {B : Nat → Prop} {base : Nat} {w : World} {v : Value} {xs : List Cls} {css : List (List Value)} (hown : OwnR base 44 7 w v css) (hE : Each (ClsR B w) xs css) (hB : ∀ k, B k → some k ≠ v.ownBlock) (hne : xs ≠ []) (hnd : (xs.map (·.name)).Nodup) (hle : xs.length ≤ 1000000) :
    Calls Tryz.prog 54 #[v, .func (.func 55) #[] #[]] w fun e w' => e = .returned (.tuple #[]) ∧ w.grownBy w' v.ownBlock ∧ ∃ css', OwnR base 44 7 w' v css' ∧ Each (ClsR B w') (sortC xs) css' := by
  obtain ⟨d, rfl, rfl, hd⟩ := each_sc hE
  obtain ⟨⟨h1, h2⟩, h3⟩ := id hown
  rcases h2 with ⟨_, h0⟩ | ⟨g, cap, cur, rfl, h5, h6, h7, h8, h9, h10⟩
  · exfalso
    apply hne
    simp at h0
    simp [h0]
  rw [List.length_map] at *
  have hglt : g < w.heap.size := (Array.getElem?_eq_some_iff.1 h6).1
  have hsz : (flatK SC.enc 7 d.toArray).size = d.length * 7 := by simp
  have hH : HoldsK SC.enc 7 w g 0 d.toArray := by
    intro j hj
    rw [hsz] at hj
    refine ⟨?_, by simp [World.frozen?, h6]⟩
    have e1 : (flatK SC.enc 7 d.toArray)[j]? = cur[j]? := by
      rw [← Array.getElem?_toList, ← Array.getElem?_toList, flat_enc, ← h10, List.getElem?_take_of_lt hj]
    have hj2 : j < (flatK SC.enc 7 d.toArray).size := by omega
    rw [Array.getElem?_eq_getElem hj2] at e1
    rw [getElem!_pos _ j hj2]
    simp only [World.cell?, h6, Nat.zero_add, Option.isSome_none, Bool.false_eq_true, if_false]
    rw [← e1]
    rfl
  have hc := AnyQ.slices_SortFunc Tryz.sfClass 7 (fun w => (inf.aggZ_ok 44 7 rfl w).1) (fun w => (inf.aggZ_ok 44 7 rfl w).2) SC.enc SC.len SC.one cfC swoC 55 #[] g 0 cap d.toArray w enters_classes1 (cmpLays g 0 d.toArray.size w) hH hglt (by rw [List.size_toArray]; omega)
  have hc2 := hc.mono (R' := fun e w' => e = .returned (.tuple #[]) ∧ w.grownBy w' (some g) ∧ ∃ css', OwnR base 44 7 w' (.slice (some ⟨g, 0, none⟩) d.length cap) css' ∧ Each (ClsR B w') (sortC (d.map (·.c))) css') ?_
  · rw [List.size_toArray] at hc2
    exact hc2
  rintro e w' ⟨rfl, d', n, os, hP, hS, rfl⟩
  rw [List.size_toArray] at hP hS
  obtain ⟨hps, _, hperm⟩ := hP
  have hds : d'.size = d.length := by rw [hps]; simp
  have hperm2 : d'.toList.Perm d := by
    have e1 : d'.extract 0 d.length = d' := by rw [← hds]; exact Array.extract_size
    have e2 : d.toArray.extract 0 d.length = d.toArray := by simp
    rw [e1, e2] at hperm
    simpa using hperm
  have hg : w.grownBy (sortWorldK SC.enc 7 w g 0 n d' os) (some g) := by
    refine ⟨rfl, rfl, rfl, by simp [sortWorldK, putRowK, putRow, mapBlock, Sort.ahead, grow], fun k hk hne => ?_⟩
    unfold sortWorldK putRowK
    rw [heap_grow_old _ _ (by simpa [putRow, mapBlock, Sort.ahead] using hk)]
    have : g ≠ k := fun e => hne (by rw [e])
    simp [putRow, mapBlock, Sort.ahead, Array.getElem?_modify, this]
  have hb : (sortWorldK SC.enc 7 w g 0 n d' os).heap[g]? = some (.cells (putCells id 0 (flatK SC.enc 7 d') cur) 44 (0, 0)) := by
    unfold sortWorldK putRowK
    rw [heap_grow_old _ _ (by simpa [putRow, mapBlock, Sort.ahead] using hglt)]
    simp [putRow, mapBlock, Sort.ahead, Array.getElem?_modify, h6, onCells]
  have hsort : d'.toList.map (·.c) = sortC (d.map (·.c)) := by
    refine sortC_eq (hperm2.map _) hnd ?_
    rw [List.pairwise_map, List.pairwise_iff_getElem]
    intro i j hi hj hij
    have hi' : i < d'.size := by simpa using hi
    have hj' : j < d'.size := by simpa using hj
    have := hS i j (Nat.zero_le _) hij (by omega)
    rw [getElem!_pos d' j hj', getElem!_pos d' i hi', ltOf_cfC, decide_eq_false_iff_not, List.not_lt] at this
    simpa [byName] using this
  refine ⟨rfl, hg, d'.toList.map SC.enc, ⟨⟨?_, .inr ⟨g, cap, _, ?_, h5, hb, ?_, h8, ?_, ?_⟩⟩, ?_⟩, ?_⟩
  · have hz : ∀ l : List SC, (l.map SC.enc).flatten.length = l.length * 7 := fun l => by
      induction l with
      | nil => rfl
      | cons s r ih => rw [List.map_cons, List.flatten_cons, List.length_append, ih, SC.len, List.length_cons]; omega
    rw [hz, List.length_map]
  · rw [List.length_map, Array.length_toList (xs := d'), hds]
  · rw [List.length_map, Array.length_toList, hds]; exact h7
  · simp [putCells, h9]
  · rw [List.length_map, Array.length_toList]
    have e3 := flat_enc d'.toList
    rw [Array.toArray_toList] at e3
    rw [← e3]
    refine putFlat (by simp) (by rw [h9, hds]; exact Nat.mul_le_mul_right 7 h7)
  · intro cs hcs
    obtain ⟨s, _, rfl⟩ := List.mem_map.1 hcs
    exact SC.len s
  · rw [← hsort]
    refine sc_each fun s hs => ?_
    refine ClsR.mono _ _ _ _ _ _ (hd s (hperm2.mem_iff.1 hs)) (grown_keeps hg fun k hk => hB k hk) fun k hk => hk
end Go.Proofs.YtljcmmmajjmpoaaGreatDoor
