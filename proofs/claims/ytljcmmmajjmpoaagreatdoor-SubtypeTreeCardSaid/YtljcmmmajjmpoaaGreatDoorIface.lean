/- link: Interfaces. -/
import Derived.Test.YtljcmmmajjmpoaaGreatDoorSortL
import Derived.Test.YtljcmmmajjmpoaaGreatDoorShelfB
import Derived.Shelf.SortM.Plain
import Derived.Shelf.SortM.SortNone
import Derived.Shelf.SlIter.Nil
namespace Go.Proofs.YtljcmmmajjmpoaaGreatDoor
open Go.RowKit Go.Maps Go.Sort Go.Shelf Sp

theorem sortsS (m : Nat) : AnyZ.SortsIn Tryz.prog Tryz.sortedS_ren Fence.wide m :=
  ⟨fun blk off cap ss W hH hblk hsz => callsIn_wide.2 (AnyM.slices_Sort_string Tryz.sortS blk off cap ss W hH hblk hsz),
   fun p cap W => callsIn_wide.2 (AnyM.slices_Sort_string_none Tryz.sortS p cap W)⟩
theorem enters_keysI : Enters Tryz.prog 73 := enters_of Tryz.func73 (by kernel_rfl) rfl
theorem keysI_any (mb : Option Nat) (W : World) : Calls Tryz.prog 73 #[.map mb] W fun e w' => e = .returned (.func (.func 114) #[] #[.pointer (some ⟨W.heap.size, 0, none⟩)]) ∧ w' = W.alloc (.cells #[.map mb] 69) :=
  callsIn_wide.1 (AnyZ.keys_in Tryz.keysI Fence.wide 5 trivial rfl mb W)
theorem enters_sortedS : Enters Tryz.prog 72 := enters_of Tryz.func72 (by kernel_rfl) rfl
set_option maxHeartbeats 1000000 in
/-- slices.Sorted(maps.Keys(m)). -/
theorem sortedS_any {r : Nat} {es : List (L × Int)} {w : World} (h : MapAt w r es) (hl : ∀ p ∈ es, Len p.1) (hn : es.length ≤ 1000000) :
    Calls Tryz.prog 72 #[.func (.func 114) #[] #[.pointer (some ⟨w.heap.size, 0, none⟩)]] (w.alloc (.cells #[.map (some r)] 69)) fun e w' => ∃ v, e = .returned v ∧ Ext w w' ∧
      OwnR w.heap.size 9 1 w' v ((sortL (es.map (·.1))).map strC) := by
  obtain ⟨D0, hown, hperm, hsize⟩ := h.owns (P := Tryz.prog) (kt := 9) Tryz.underlying9 (fun p hp => by have := hl p hp; simp only [maxLen]; exact this) (by simp only [maxLen]; omega)
  have hbl := hown.lt
  have hseq : SeqGives Fence.wide 2 Tryz.prog 114 #[.pointer (some ⟨w.heap.size, 0, none⟩)] encStr (fun ss => ss.Perm (strKeys D0)) (Maps.size D0) (w.alloc (.cells #[.map (some r)] 69)) :=
    AnyZ.keys_gives (ρ := Tryz.keysI_ren) { Tryz.keysI with } Fence.wide _ trivial rfl (by omega) w.heap.size r es.length D0 _ (by simp) (by simp) (by
      obtain ⟨es, clock, hb, Ft, hs, hD⟩ := hown
      exact ⟨es, clock, (Below.heap_alloc _ _ r hbl).trans hb, Ft, hs, hD⟩)
  have cS := AnyZ.sorted_in Tryz.sortedS Fence.wide 5 trivial trivial trivial trivial rfl (by omega) (sortsS _) (enters_of Tryz.func113 (by kernel_rfl) rfl) 114 #[.pointer (some ⟨w.heap.size, 0, none⟩)] trivial (enters_of Tryz.func114 (by kernel_rfl) rfl) _ _ (by simp only [maxLen]; omega) (by omega) _ hseq
  refine (callsIn_wide.1 cS).mono ?_
  rintro e w' ⟨v, ss, rfl, hp, hrow, hnil, hb⟩
  have hE0 : Ext w (w.alloc (.cells #[.map (some r)] 69)) := (Below.refl _ w).alloc (Nat.le_refl _) _
  have hs1 : (w.alloc (.cells #[.map (some r)] 69)).heap.size = w.heap.size + 1 := by simp
  have hE : Ext w w' := hE0.then_ hb
  have hm : ss.mergeSort (fun x y => decide (x ≤ y)) = sortL (es.map (·.1)) := sortL_perm (hp.trans hperm)
  rw [hm] at hrow
  have hlen : ss.length = (sortL (es.map (·.1))).length := by rw [← hm, List.length_mergeSort]
  refine ⟨v, rfl, hE, ?_⟩
  refine OwnR.weak (base := (w.alloc (.cells #[.map (some r)] 69)).heap.size) ⟨?_, ?_⟩ (by omega)
  · rw [List.length_map, ← hlen]
    have e1 : ((sortL (es.map (·.1))).map strC).flatten = (sortL (es.map (·.1))).map encStr := by
      generalize sortL (es.map (·.1)) = l
      induction l with
      | nil => rfl
      | cons a r ih => rw [List.map_cons, List.map_cons, List.flatten_cons, ih]; rfl
    rw [e1]
    exact hrow
  · intro cs hcs
    obtain ⟨x, _, rfl⟩ := List.mem_map.1 hcs
    rfl
/-- A class's interfaces. -/
def upS (P : Option (List Cls)) (name : L) : List L := spreadF P ((allI P).length + 1) name []
def ifaceKeys (P : Option (List Cls)) (name : L) : List L := if (findP P name).isSome && ((findP P name).getD zeroC).face && !(upS P name).contains name then upS P name ++ [name] else upS P name
def ifacesD (P : Option (List Cls)) (name : L) : List L := sortL (ifaceKeys P name)
theorem lk_plus : ∀ (S : List L) (i : L), (lkD (ones S) i).getD 0 = if S.contains i then 1 else 0 := fun S i => by
  rw [lk_ones]; split <;> rfl
theorem put_keys : ∀ (es : List (L × Int)) (x : L) (v : Int), (putD es x v).map (·.1) = if (es.map (·.1)).contains x then es.map (·.1) else es.map (·.1) ++ [x]
  | [], x, v => by simp [putD]
  | (s, u) :: r, x, v => by
    have ih := put_keys r x v
    unfold putD
    by_cases h : s = x
    · subst h; simp
    · rw [if_neg h, List.map_cons, ih]
      have h1 : (x == s) = false := by simp; exact fun e => h e.symm
      simp only [List.map_cons, List.contains_cons, h1, Bool.false_or]
      split <;> rfl
theorem ones_keys (S : List L) : (ones S).map (·.1) = S := by
  unfold ones; rw [List.map_map]; exact List.map_id _
theorem spread_mem (P : Option (List Cls)) : ∀ (n : Nat) (name : L) (S : List L), ∀ x ∈ spreadF P n name S, x ∈ S ∨ x ∈ allI P := by
  intro n
  induction n with
  | zero => intro name S x hx; exact .inl hx
  | succ n ih =>
    intro name S x hx
    unfold spreadF at hx
    have inner : ∀ (l : List L), (∀ y ∈ l, y ∈ allI P) → ∀ (S : List L), x ∈ l.foldl (fun S i => if S.contains i then S else spreadF P n i (S ++ [i])) S → x ∈ S ∨ x ∈ allI P := by
      intro l
      induction l with
      | nil => intro _ S h; exact .inl h
      | cons i r ihr =>
        intro hl S h
        rw [List.foldl_cons] at h
        rcases ihr (fun y hy => hl y (by simp [hy])) _ h with h | h
        · split at h
          · exact .inl h
          · rcases ih i _ x h with h | h
            · rcases List.mem_append.1 h with h | h
              · exact .inl h
              · simp at h; subst h; exact .inr (hl x (by simp))
            · exact .inr h
        · exact .inr h
    have outer : ∀ (l : List L) (S : List L), x ∈ l.foldl (fun S s => (implP P s).foldl (fun S i => if S.contains i then S else spreadF P n i (S ++ [i])) S) S → x ∈ S ∨ x ∈ allI P := by
      intro l
      induction l with
      | nil => intro S h; exact .inl h
      | cons s r ihr =>
        intro S h
        rw [List.foldl_cons] at h
        rcases ihr _ h with h | h
        · exact inner _ (fun y hy => implP_all hy) _ h
        · exact .inr h
    exact outer _ _ hx
theorem spread_nodup (P : Option (List Cls)) : ∀ (n : Nat) (name : L) (S : List L), S.Nodup → (spreadF P n name S).Nodup := by
  intro n
  induction n with
  | zero => intro name S h; exact h
  | succ n ih =>
    intro name S hS
    unfold spreadF
    have inner : ∀ (l : List L) (S : List L), S.Nodup → (l.foldl (fun S i => if S.contains i then S else spreadF P n i (S ++ [i])) S).Nodup := by
      intro l
      induction l with
      | nil => intro S h; exact h
      | cons i r ihr =>
        intro S h
        rw [List.foldl_cons]
        refine ihr _ ?_
        split
        · exact h
        · rename_i hc
          refine ih i _ (List.nodup_append.2 ⟨h, by simp, fun a ha b hb e => ?_⟩)
          simp at hb; subst hb; subst e
          exact hc (by simpa using ha)
    have outer : ∀ (l : List L) (S : List L), S.Nodup → (l.foldl (fun S s => (implP P s).foldl (fun S i => if S.contains i then S else spreadF P n i (S ++ [i])) S) S).Nodup := by
      intro l
      induction l with
      | nil => intro S h; exact h
      | cons s r ihr => intro S h; rw [List.foldl_cons]; exact ihr _ (inner _ _ h)
    exact outer _ _ hS
/-- A program of no great size. -/
def FitP (P : Option (List Cls)) : Prop := sizeP P ≤ 1000 ∧ (allI P).length ≤ 100000
theorem PrgV.impl_len {w : World} {pv : Value} {P : Option (List Cls)} (h : PrgV w pv P) : ∀ x ∈ allI P, Len x := by
  cases P with
  | none => intro x hx; simp [allI] at hx
  | some cs =>
    obtain ⟨q, _, lv, r, es, _, hsl, _, _⟩ := h
    obtain ⟨A, c, rfl, _, _, hrow⟩ := hsl
    intro x hx
    obtain ⟨k, hk, hxk⟩ := List.mem_flatMap.1 hx
    obtain ⟨j, hj, rfl⟩ := List.getElem_of_mem (show k ∈ cs from hk)
    obtain ⟨a, ce, _, _, hR, _⟩ := hrow.at_ (List.getElem?_eq_getElem hj)
    obtain ⟨i, f, m, _, _, _, hi, _, _⟩ := hR
    obtain ⟨A2, c2, rfl, _, _, hrow2⟩ := hi
    obtain ⟨j2, hj2, rfl⟩ := List.getElem_of_mem hxk
    obtain ⟨a2, ce2, _, _, hR2, _⟩ := hrow2.at_ (List.getElem?_eq_getElem hj2)
    exact hR2.2
theorem upS_len (P : Option (List Cls)) (name : L) : (upS P name).length ≤ (allI P).length :=
  len_sub _ _ (spread_nodup P _ _ [] (by simp)) fun x hx => by
    rcases spread_mem P _ _ [] x hx with h | h
    · cases h
    · exact h
theorem enters_interfaces : Enters Tryz.prog 31 := enters_of Tryz.func31 (by kernel_rfl) rfl
set_option maxRecDepth 100000 in
set_option maxHeartbeats 4000000 in
theorem interfaces_any (P : Option (List Cls)) (name : L) (pv : Value) (w : World) (hP : PrgV w pv P) (hl : Len name) (hf : FitP P) :
    Calls Tryz.prog 31 #[pv, .string (mkS name)] w fun e w' => ∃ v, e = .returned v ∧ Ext w w' ∧ OwnR w.heap.size 9 1 w' v ((ifacesD P name).map strC) ∧ (∀ s ∈ ifacesD P name, Len s) := by
  have hall := hP.impl_len
  have hul : ∀ x ∈ upS P name, Len x := fun x hx => by
    rcases spread_mem P _ _ [] x hx with h | h
    · cases h
    · exact hall x h
  have huz := upS_len P name
  have hf2 := hf.2
  refine calls_W (args := [pv, .string (mkS name)]) Tryz.func31 rfl rfl rfl ?_
  refine Wg rfl (W_region ?_)
  repeat (first | refine WL1 rfl ?_ | refine WLe rfl rfl ?_ | refine W_region ?_ | refine WL2 inf rfl ?_ | refine WL_ld inf rfl rfl rfl rfl (Blk.cell (by assumption) rfl) ?_)
  refine WL_mk rfl rfl rfl ?_
  rintro r w1 hr hm1 hE1
  repeat (first | refine WL1 rfl ?_ | refine WLe rfl rfl ?_ | refine W_region ?_ | refine WL2 inf rfl ?_ | refine WL_ld inf rfl rfl rfl rfl (Blk.cell (by assumption) rfl) ?_)
  refine WL_call rfl rfl rfl rfl rfl enters_spread rfl (spread_any P pv w hP hf.1 ((allI P).length + 1) name [] r w1 hE1 (by omega) hm1 hl (cnt_lt P)) ?_
  rintro e w3 ⟨rfl, hg3, hm3⟩
  refine ⟨_, rfl, ?_⟩
  have hE3 : Ext w w3 := grown_ext hg3 hE1 fun b hb => by cases hb; omega
  change MapAt w3 r (ones (upS P name)) at hm3
  repeat (first | refine WL1 rfl ?_ | refine WLe rfl rfl ?_ | refine W_region ?_ | refine WL2 inf rfl ?_ | refine WL_ld inf rfl rfl rfl rfl (Blk.cell (by assumption) rfl) ?_)
  refine WL_call rfl rfl rfl rfl rfl enters_find rfl (find_any P name pv _ (hP.ext hE3)) ?_
  rintro e w4 ⟨cl, rfl, hE4, hR⟩
  refine ⟨_, rfl, ?_⟩
  have hone := ClsR.one _ _ _ _ hR
  obtain ⟨i', f', m', rfl, -⟩ := hR
  repeat (first | refine WL1 rfl ?_ | refine WLe rfl rfl ?_ | refine W_region ?_ | refine WL2 inf rfl ?_ | refine WL_ld inf rfl rfl rfl rfl (Blk.cell (by assumption) rfl) ?_)
  refine WL_alloc inf rfl rfl rfl rfl rfl ?_
  rintro g6 w5 hg6 hB5 hE5
  refine WL_sta inf (cs' := Cls.cs ((findP P name).getD zeroC) i' f' m') rfl rfl rfl rfl hone rfl hB5 rfl ?_
  rintro w6 hB6 u6
  have hz1 := hE1.size
  have hz3 := hE3.size
  have hz4 := hE4.size
  have hz0 := hm3.lt
  have hE6 : Ext w w6 := u6.ext ((hE3.then_ hE4).then_ hE5) (by omega)
  have hm6 : MapAt w6 r (ones (upS P name)) := ((hm3.ext hE4).ext hE5).upd u6 (by omega)
  repeat (first | refine WL1 rfl ?_ | refine WLe rfl rfl ?_ | refine W_region ?_ | refine WL2 inf rfl ?_ | refine WL_ld inf rfl rfl rfl rfl (Blk.cell (by assumption) rfl) ?_)
  refine W_cut (fun es : List (L × Int) => [(0, [], pv), (1, [], .string (mkS name)), (5, [], .map (some r))]) (fun es W => Ext w W ∧ MapAt W r es ∧ es.map (·.1) = ifaceKeys P name ∧ es.length ≤ 1000000 ∧ ∀ p ∈ es, Len p.1) ?_ ?_
  · refine W_cond rfl rfl (fun hb => ?_) (fun hb => ?_)
    · have hn : (lkD (ones (upS P name)) name).getD 0 + 1 ≤ 2 ∧ 0 ≤ (lkD (ones (upS P name)) name).getD 0 + 1 := by rw [lk_plus]; split <;> omega
      refine Wg rfl (W_region ?_)
      repeat (first | refine WL1 rfl ?_ | refine WLe rfl rfl ?_ | refine W_region ?_ | refine WL2 inf rfl ?_ | refine WL_ld inf rfl rfl rfl rfl (Blk.cell (by assumption) rfl) ?_)
      refine WL_lk1 rfl rfl rfl mSI rfl hm6 ?_
      refine WL_add rfl rfl rfl rfl rfl rfl rfl (fun _ => by omega) ?_
      refine WL_mu rfl rfl rfl rfl rfl mSI hm6 ?_
      rintro w7 hm7 u7
      have hkeys : (putD (ones (upS P name)) name ((lkD (ones (upS P name)) name).getD 0 + 1)).map (·.1) = ifaceKeys P name := by
        rw [put_keys, ones_keys]
        unfold ifaceKeys
        have hb' : ((findP P name).isSome && ((findP P name).getD zeroC).face) = true := hb
        rw [hb', Bool.true_and]
        cases (upS P name).contains name <;> rfl
      refine WLm rfl _ ⟨u7.ext hE6 (by omega), hm7, hkeys, ?_, ?_⟩ rfl ⟨rfl, rfl, rfl, trivial⟩
      · have h1 := congrArg List.length hkeys
        rw [List.length_map] at h1
        rw [h1]
        unfold ifaceKeys
        split <;> simp <;> omega
      · intro p hp
        have h1 : p.1 ∈ ifaceKeys P name := by rw [← hkeys]; exact List.mem_map.2 ⟨p, hp, rfl⟩
        unfold ifaceKeys at h1
        split at h1
        · rcases List.mem_append.1 h1 with h | h
          · exact hul _ h
          · simp at h; rw [h]; exact hl
        · exact hul _ h1
    · have hkeys : (ones (upS P name)).map (·.1) = ifaceKeys P name := by
        rw [ones_keys]
        unfold ifaceKeys
        have hb' : ((findP P name).isSome && ((findP P name).getD zeroC).face) = false := hb
        rw [hb']
        rfl
      refine Wm rfl _ ⟨hE6, hm6, hkeys, ?_, ?_⟩ rfl ⟨rfl, rfl, rfl, trivial⟩
      · unfold ones; rw [List.length_map]; omega
      · intro p hp
        have h1 : p.1 ∈ upS P name := by rw [← ones_keys (upS P name)]; exact List.mem_map.2 ⟨p, hp, rfl⟩
        exact hul _ h1
  · rintro es W ⟨hE, hm, hk, hn, hlen⟩
    refine Wg rfl (W_region ?_)
    repeat (first | refine WL1 rfl ?_ | refine WLe rfl rfl ?_ | refine W_region ?_ | refine WL2 inf rfl ?_ | refine WL_ld inf rfl rfl rfl rfl (Blk.cell (by assumption) rfl) ?_)
    refine WL_call rfl rfl rfl rfl rfl enters_keysI rfl (keysI_any (some r) _) ?_
    rintro e w8 ⟨rfl, rfl⟩
    refine ⟨_, rfl, ?_⟩
    repeat (first | refine WL1 rfl ?_ | refine WLe rfl rfl ?_ | refine W_region ?_ | refine WL2 inf rfl ?_ | refine WL_ld inf rfl rfl rfl rfl (Blk.cell (by assumption) rfl) ?_)
    refine WL_call rfl rfl rfl rfl rfl enters_sortedS rfl (sortedS_any hm hlen hn) ?_
    rintro e w9 ⟨v, rfl, hE9, hown⟩
    refine ⟨_, rfl, ?_⟩
    repeat (first | refine WL1 rfl ?_ | refine WLe rfl rfl ?_ | refine W_region ?_ | refine WL2 inf rfl ?_ | refine WL_ld inf rfl rfl rfl rfl (Blk.cell (by assumption) rfl) ?_)
    rw [hk] at hown
    refine W_ret1 rfl rfl rfl ⟨v, rfl, hE.then_ hE9, hown.weak hE.size, fun s hs => ?_⟩
    have h1 : s ∈ ifaceKeys P name := sortL_mem.1 hs
    rw [← hk] at h1
    obtain ⟨p, hp, rfl⟩ := List.mem_map.1 h1
    exact hlen p hp
end Go.Proofs.YtljcmmmajjmpoaaGreatDoor
