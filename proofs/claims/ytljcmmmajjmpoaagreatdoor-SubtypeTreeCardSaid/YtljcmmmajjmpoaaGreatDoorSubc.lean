/- subtype: Common, Merge. -/
import Derived.Test.YtljcmmmajjmpoaaGreatDoorSuba
namespace Go.Proofs.YtljcmmmajjmpoaaGreatDoor
open Go.RowKit Sp

/-- The nearest class that is above both. -/
def commonD (P : Option (List Cls)) (a b : L) : L :=
  if !(findP P a).isSome || !(findP P b).isSome then []
  else if a == b then a
  else if ((findP P a).getD zeroC).face || ((findP P b).getD zeroC).face then objectS
  else ((chainD P a).find? fun s => (chainD P b).contains s).getD []
/-- Two classes of it have one above both. -/
def MeetP (P : Option (List Cls)) : Prop := ∀ a b, (findP P a).isSome = true → (findP P b).isSome = true → ((findP P a).getD zeroC).face = false → ((findP P b).getD zeroC).face = false → ∃ s, s ∈ chainD P a ∧ s ∈ chainD P b
theorem enters_common1 : Enters Tryz.prog 38 := enters_of Tryz.func38 (by kernel_rfl) rfl
theorem common1_any (P : Option (List Cls)) (s b : L) (pv : Value) (g h : Nat) (w : World) (hP : PrgV w pv P) (hB : Blk w g 26 [pv]) (hB2 : Blk w h 9 (strC b)) (hl : Len b) (hf : FitP P) :
    Calls Tryz.prog 38 #[.string (mkS s), .pointer (some ⟨g, 0, none⟩), .pointer (some ⟨h, 0, none⟩)] w fun e w' => e = .returned (.bool ((chainD P b).contains s)) ∧ Ext w w' := by
  refine calls_W (args := [.string (mkS s), .pointer (some ⟨g, 0, none⟩), .pointer (some ⟨h, 0, none⟩)]) Tryz.func38 rfl rfl rfl ?_
  refine Wg rfl (W_region ?_)
  repeat (first | refine WL1 rfl ?_ | refine WLe rfl rfl ?_ | refine W_region ?_ | refine WL2 inf rfl ?_ | refine WL_ld inf rfl rfl rfl rfl (Blk.cell (by assumption) rfl) ?_)
  refine WL_call rfl rfl rfl rfl rfl enters_supers rfl (supers_any P b pv _ hP hl hf.1) ?_
  rintro e w1 ⟨cv, rfl, hE1, hown, hcl⟩
  refine ⟨_, rfl, ?_⟩
  have hsl : Sl StrR 1 Any_ w1 cv (chainD P b) := hown.sl (strEach _ _ _ hcl) fun _ _ => trivial
  repeat (first | refine WL1 rfl ?_ | refine WLe rfl rfl ?_ | refine W_region ?_ | refine WL2 inf rfl ?_ | refine WL_ld inf rfl rfl rfl rfl (Blk.cell (by assumption) rfl) ?_)
  refine WL_callq rfl rfl rfl rfl rfl enters_hasStr rfl (fun _ => hasStr_any s hsl) ?_
  repeat (first | refine WL1 rfl ?_ | refine WLe rfl rfl ?_ | refine W_region ?_ | refine WL2 inf rfl ?_ | refine WL_ld inf rfl rfl rfl rfl (Blk.cell (by assumption) rfl) ?_)
  exact W_ret1 rfl rfl rfl ⟨rfl, hE1⟩
theorem ixI_find {α : Type} {p : α → Bool} {xs : List α} (h : ∃ x ∈ xs, p x = true) : ∃ (i : Nat) (x : α), ixI p xs = i ∧ xs[i]? = some x ∧ xs.find? p = some x := by
  obtain ⟨i, hi⟩ : ∃ i, xs.findIdx? p = some i := by
    cases hi : xs.findIdx? p with
    | some i => exact ⟨i, rfl⟩
    | none =>
      rw [List.findIdx?_eq_none_iff] at hi
      obtain ⟨x, hx, hp⟩ := h
      rw [hi x hx] at hp; cases hp
  have h2 := hi
  rw [List.findIdx?_eq_some_iff_getElem] at h2
  obtain ⟨hlt, hp, hno⟩ := h2
  refine ⟨i, xs[i], by unfold ixI; rw [hi], List.getElem?_eq_getElem hlt, ?_⟩
  rw [List.find?_eq_some_iff_getElem]
  exact ⟨hp, i, hlt, rfl, fun j hj => by have := hno j hj; simpa using this⟩
theorem enters_scommon : Enters Tryz.prog 15 := enters_of Tryz.func15 (by kernel_rfl) rfl
set_option maxRecDepth 100000 in
set_option maxHeartbeats 4000000 in
theorem scommon_any (P : Option (List Cls)) (a b : L) (pv : Value) (w : World) (hP : PrgV w pv P) (ha : Len a) (hb : Len b) (hf : FitP P) (hm : MeetP P) :
    Calls Tryz.prog 15 #[pv, .string (mkS a), .string (mkS b)] w fun e w' => e = .returned (.string (mkS (commonD P a b))) ∧ Ext w w' ∧ Len (commonD P a b) := by
  have hpc := hP.one
  have hcells : pv.cells = [pv].toArray := by cases pv <;> first | rfl | cases hpc
  refine calls_W (args := [pv, .string (mkS a), .string (mkS b)]) Tryz.func15 rfl rfl rfl ?_
  have hT : commonD P a b = _ := rfl
  conv at hT => rhs; unfold commonD
  refine Wg rfl (W_region ?_)
  refine WL_box (cs := [pv]) rfl rfl hcells rfl rfl ?_
  rintro g w1 hg hB3 hE1
  repeat (first | refine WL1 rfl ?_ | refine WLe rfl rfl ?_ | refine W_region ?_ | refine WL2 inf rfl ?_ | refine WL_ld inf rfl rfl rfl rfl (Blk.cell (by assumption) rfl) ?_)
  refine WL_box (cs := strC b) rfl rfl rfl rfl rfl ?_
  rintro h w2 hh hB5 hE2
  replace hB3 := hB3.ext hE2
  have hE := hE1.then_ hE2
  clear hE1 hE2
  repeat (first | refine WL1 rfl ?_ | refine WLe rfl rfl ?_ | refine W_region ?_ | refine WL2 inf rfl ?_ | refine WL_ld inf rfl rfl rfl rfl (Blk.cell (by assumption) rfl) ?_)
  refine WL_call rfl rfl rfl rfl rfl enters_look rfl (look_any P a pv _ (hP.ext hE)) ?_
  rintro e w3 ⟨cl, rfl, hE3, hR⟩
  refine ⟨_, rfl, ?_⟩
  have hz := hR.len
  have one := ClsR.one _ _ _ _ hR
  obtain ⟨i1, f1, m1, rfl, -⟩ := hR
  have l3 := hB3.lt
  have l5 := hB5.lt
  have z3 := hE3.size
  replace hB3 := hB3.ext hE3
  replace hB5 := hB5.ext hE3
  repeat (first | refine WL1 rfl ?_ | refine WLe rfl rfl ?_ | refine W_region ?_ | refine WL2 inf rfl ?_ | refine WL_ld inf rfl rfl rfl rfl (Blk.cell (by assumption) rfl) ?_)
  refine WL_alloc inf rfl rfl rfl rfl rfl ?_
  rintro g7 w4 hg7 hB7 hE4
  repeat (first | refine WL1 rfl ?_ | refine WLe rfl rfl ?_ | refine W_region ?_ | refine WL2 inf rfl ?_ | refine WL_ld inf rfl rfl rfl rfl (Blk.cell (by assumption) rfl) ?_)
  refine WL_sta inf (cs' := Cls.cs ((findP P a).getD zeroC) i1 f1 m1) rfl rfl rfl (by rw [hz]; rfl) one rfl hB7 (by rw [hz]; rfl) ?_
  rintro w5 hB7 u5
  have k3 := hB3.lt
  have k5 := hB5.lt
  replace hB3 := u5.blk (hB3.ext hE4) (by omega)
  replace hB5 := u5.blk (hB5.ext hE4) (by omega)
  have hE5 : Ext w w5 := u5.ext ((hE.then_ hE3).then_ hE4) (by have := (hE.then_ hE3).size; omega)
  clear hE hE3 hE4 u5 z3
  repeat (first | refine WL1 rfl ?_ | refine WLe rfl rfl ?_ | refine W_region ?_ | refine WL2 inf rfl ?_ | refine WL_ld inf rfl rfl rfl rfl (Blk.cell (by assumption) rfl) ?_)
  refine WL_call rfl rfl rfl rfl rfl enters_look rfl (look_any P b pv _ (hP.ext hE5)) ?_
  rintro e w6 ⟨cl, rfl, hE6, hR⟩
  refine ⟨_, rfl, ?_⟩
  have hz2 := hR.len
  have one2 := ClsR.one _ _ _ _ hR
  obtain ⟨i2, f2, m2, rfl, -⟩ := hR
  have z6 := hE6.size
  replace hB3 := hB3.ext hE6
  replace hB5 := hB5.ext hE6
  replace hB7 := hB7.ext hE6
  have k3 := hB3.lt
  have k5 := hB5.lt
  have k7 := hB7.lt
  repeat (first | refine WL1 rfl ?_ | refine WLe rfl rfl ?_ | refine W_region ?_ | refine WL2 inf rfl ?_ | refine WL_ld inf rfl rfl rfl rfl (Blk.cell (by assumption) rfl) ?_)
  refine WL_alloc inf rfl rfl rfl rfl rfl ?_
  rintro g9 w7 hg9 hB9 hE7
  repeat (first | refine WL1 rfl ?_ | refine WLe rfl rfl ?_ | refine W_region ?_ | refine WL2 inf rfl ?_ | refine WL_ld inf rfl rfl rfl rfl (Blk.cell (by assumption) rfl) ?_)
  refine WL_sta inf (cs' := Cls.cs ((findP P b).getD zeroC) i2 f2 m2) rfl rfl rfl (by rw [hz2]; rfl) one2 rfl hB9 (by rw [hz2]; rfl) ?_
  rintro w8 hB9 u8
  replace hB3 := u8.blk (hB3.ext hE7) (by omega)
  replace hB5 := u8.blk (hB5.ext hE7) (by omega)
  replace hB7 := u8.blk (hB7.ext hE7) (by omega)
  have hE : Ext w w8 := u8.ext ((hE5.then_ hE6).then_ hE7) (by have := (hE5.then_ hE6).size; omega)
  clear hE5 hE6 hE7 u8 z6
  repeat (first | refine WL1 rfl ?_ | refine WLe rfl rfl ?_ | refine W_region ?_ | refine WL2 inf rfl ?_ | refine WL_ld inf rfl rfl rfl rfl (Blk.cell (by assumption) rfl) ?_)
  refine W_cond rfl rfl (fun h1 => ?_) (fun h1 => ?_)
  · have h1' : (!(findP P a).isSome || !(findP P b).isSome) = true := h1
    rw [if_pos h1'] at hT
    refine Wg rfl (W_region ?_)
    repeat (first | refine WL1 rfl ?_ | refine WLe rfl rfl ?_ | refine W_region ?_ | refine WL2 inf rfl ?_ | refine WL_ld inf rfl rfl rfl rfl (Blk.cell (by assumption) rfl) ?_)
    exact W_ret1 rfl rfl rfl ⟨by rw [hT]; rfl, hE, by rw [hT]; simp [Len]⟩
  have h1' : (!(findP P a).isSome || !(findP P b).isSome) = false := h1
  rw [if_neg (by rw [h1']; simp)] at hT
  simp only [Bool.or_eq_false_iff, Bool.not_eq_false'] at h1'
  refine Wg rfl (W_region ?_)
  repeat (first | refine WL1 rfl ?_ | refine WLe rfl rfl ?_ | refine W_region ?_ | refine WL2 inf rfl ?_ | refine WL_ld inf rfl rfl rfl rfl (Blk.cell (by assumption) rfl) ?_)
  refine W_cond rfl rfl (fun h2 => ?_) (fun h2 => ?_)
  · rw [if_pos (show (a == b) = true from h2)] at hT
    refine Wg rfl (W_region ?_)
    repeat (first | refine WL1 rfl ?_ | refine WLe rfl rfl ?_ | refine W_region ?_ | refine WL2 inf rfl ?_ | refine WL_ld inf rfl rfl rfl rfl (Blk.cell (by assumption) rfl) ?_)
    exact W_ret1 rfl rfl rfl ⟨by rw [hT], hE, by rw [hT]; exact ha⟩
  rw [if_neg (by rw [show (a == b) = false from h2]; simp)] at hT
  refine Wg rfl (W_region ?_)
  repeat (first | refine WL1 rfl ?_ | refine WLe rfl rfl ?_ | refine W_region ?_ | refine WL2 inf rfl ?_ | refine WL_ld inf rfl rfl rfl rfl (Blk.cell (by assumption) rfl) ?_)
  refine W_cond rfl rfl (fun h3 => ?_) (fun h3 => ?_)
  · rw [if_pos (show (((findP P a).getD zeroC).face || ((findP P b).getD zeroC).face) = true from h3)] at hT
    refine Wg rfl (W_region ?_)
    repeat (first | refine WL1 rfl ?_ | refine WLe rfl rfl ?_ | refine W_region ?_ | refine WL2 inf rfl ?_ | refine WL_ld inf rfl rfl rfl rfl (Blk.cell (by assumption) rfl) ?_)
    exact W_ret1 rfl rfl rfl ⟨by rw [hT]; rfl, hE, by rw [hT]; unfold Len; decide⟩
  have h3' : (((findP P a).getD zeroC).face || ((findP P b).getD zeroC).face) = false := h3
  rw [if_neg (by rw [h3']; simp)] at hT
  simp only [Bool.or_eq_false_iff] at h3'
  obtain ⟨s0, hs1, hs2⟩ := hm a b h1'.1 h1'.2 h3'.1 h3'.2
  obtain ⟨i, s, hi, hgi, hfi⟩ := ixI_find (p := fun s => (chainD P b).contains s) ⟨s0, hs1, by simpa using hs2⟩
  rw [hfi] at hT
  refine Wg rfl (W_region ?_)
  repeat (first | refine WL1 rfl ?_ | refine WLe rfl rfl ?_ | refine W_region ?_ | refine WL2 inf rfl ?_ | refine WL_ld inf rfl rfl rfl rfl (Blk.cell (by assumption) rfl) ?_)
  refine WL_call rfl rfl rfl rfl rfl enters_supers rfl (supers_any P a pv _ (hP.ext hE) ha hf.1) ?_
  rintro e w9 ⟨v, rfl, hE9, hown, hcl⟩
  refine ⟨_, rfl, ?_⟩
  have hsl : Sl StrR 1 Any_ w9 v (chainD P a) := hown.sl (strEach _ _ _ hcl) fun _ _ => trivial
  replace hB3 := hB3.ext hE9
  replace hB5 := hB5.ext hE9
  have hE10 := hE.then_ hE9
  repeat (first | refine WL1 rfl ?_ | refine WLe rfl rfl ?_ | refine W_region ?_ | refine WL2 inf rfl ?_ | refine WL_ld inf rfl rfl rfl rfl (Blk.cell (by assumption) rfl) ?_)
  refine WL_call rfl rfl rfl rfl rfl enters_ixfL rfl (ixfL_any (cap := [.pointer (some ⟨g, 0, none⟩), .pointer (some ⟨h, 0, none⟩)]) (fun s => (chainD P b).contains s) hsl enters_common1 (fun W x hW _ _ => common1_any P x b pv g h W (hP.ext (hE10.then_ hW)) (hB3.ext hW) (hB5.ext hW) hb hf)) ?_
  rintro e w10 ⟨rfl, hE11⟩
  refine ⟨_, rfl, ?_⟩
  rw [hi]
  replace hsl := hsl.ext StrR.mono hE11
  have hlen := hsl.len
  obtain ⟨A, c, rfl, hlc, _, hrow⟩ := hsl
  have hlt := (List.getElem?_eq_some_iff.1 hgi).1
  obtain ⟨a0, cs, rfl, hz0, hR0, hcs⟩ := hrow.at_ hgi
  obtain ⟨rfl, hls⟩ := hR0
  repeat (first | refine WL1 rfl ?_ | refine WLe rfl rfl ?_ | refine W_region ?_ | refine WL2 inf rfl ?_ | refine WL_ld inf rfl rfl rfl rfl (Blk.cell (by assumption) rfl) ?_)
  refine WL_ix inf rfl rfl rfl rfl rfl (fun _ => ⟨by omega, by omega⟩) ?_
  refine WL_ld inf rfl rfl rfl rfl (hcs.cells.at_ (j := 0) rfl) ?_
  repeat (first | refine WL1 rfl ?_ | refine WLe rfl rfl ?_ | refine W_region ?_ | refine WL2 inf rfl ?_ | refine WL_ld inf rfl rfl rfl rfl (Blk.cell (by assumption) rfl) ?_)
  exact W_ret1 rfl rfl rfl ⟨by rw [hT]; rfl, hE10.then_ hE11, by rw [hT]; exact hls⟩
def goM (P : Option (List Cls)) : Nat → L → L → L → L
  | 0, _, _, _ => []
  | n + 1, r, a, b =>
    if a == b then r ++ a
    else if refD ((elemD a).getD []) && refD ((elemD b).getD []) then goM P n (r ++ [91]) ((elemD a).getD []) ((elemD b).getD [])
    else r ++ ofD (if !(classD a == []) && !(classD b == []) then commonD P (classD a) (classD b) else objectS)
/-- The nearest type of which both are. -/
def mergeD (P : Option (List Cls)) (a b : L) : L := if (!kn P a || !kn P b || !refD a || !refD b) = true then [] else goM P (a.length + 1) [] a b
theorem ofD_le (l : L) : (ofD l).length ≤ 32 := by
  unfold ofD
  split
  · rename_i h
    unfold nameB at h; simp at h
    simp; omega
  · simp
theorem kn_len {P : Option (List Cls)} {l : L} (h : kn P l = true) : l.length ≤ 38 := by
  unfold kn at h
  simp only [Bool.and_eq_true] at h
  exact typeB_len h.1.2
theorem enters_smerge : Enters Tryz.prog 21 := enters_of Tryz.func21 (by kernel_rfl) rfl
set_option maxRecDepth 100000 in
set_option maxHeartbeats 4000000 in
theorem smerge_any (P : Option (List Cls)) (a b : L) (pv : Value) (w : World) (hP : PrgV w pv P) (ha : Len a) (hb : Len b) (hf : FitP P) (hm : MeetP P) :
    Calls Tryz.prog 21 #[pv, .string (mkS a), .string (mkS b)] w fun e w' => e = .returned (.string (mkS (mergeD P a b))) ∧ Ext w w' := by
  refine calls_W (args := [pv, .string (mkS a), .string (mkS b)]) Tryz.func21 rfl rfl rfl ?_
  have hT : mergeD P a b = if (!kn P a || !kn P b || !refD a || !refD b) = true then [] else goM P (a.length + 1) [] a b := rfl
  refine Wg rfl (W_region ?_)
  repeat (first | refine WL1 rfl ?_ | refine WLe rfl rfl ?_ | refine W_region ?_ | refine WL2 inf rfl ?_ | refine WL_ld inf rfl rfl rfl rfl (Blk.cell (by assumption) rfl) ?_)
  refine W_scope 0 (fun x : L × L × L => [(0, [], pv), (1, [], .string (mkS x.2.1)), (2, [], .string (mkS x.2.2)), (7, [], .string (mkS x.1))])
    (fun x W => Ext w W ∧ x.1.length + x.2.1.length ≤ 38 ∧ Len x.2.2 ∧ mergeD P a b = goM P (x.2.1.length + 1) x.1 x.2.1 x.2.2) (fun x => x.2.1.length) rfl ?_ ?_
  · rintro ⟨r, s, t⟩ W ⟨hE, hrs, ht, hD⟩
    dsimp only at hrs ht hD ⊢
    have hcs := classD_le s
    have hct := classD_le t
    have hs : Len s := by unfold Len; omega
    unfold Len at ht
    rw [goM] at hD
    refine Wg rfl (W_region ?_)
    repeat (first | refine WL1 rfl ?_ | refine WLe rfl rfl ?_ | refine W_region ?_ | refine WL2 inf rfl ?_ | refine WL_ld inf rfl rfl rfl rfl (Blk.cell (by assumption) rfl) ?_)
    refine W_cond rfl rfl (fun h1 => ?_) (fun h1 => ?_)
    · rw [if_pos (show (s == t) = true from h1)] at hD
      refine Wg rfl (W_region ?_)
      repeat (first | refine WL1 rfl ?_ | refine WLe rfl rfl ?_ | refine W_region ?_ | refine WL2 inf rfl ?_ | refine WL_ld inf rfl rfl rfl rfl (Blk.cell (by assumption) rfl) ?_)
      refine WL_cat rfl rfl rfl rfl (fun _ => by omega) (r := r ++ s) rfl ?_
      repeat (first | refine WL1 rfl ?_ | refine WLe rfl rfl ?_ | refine W_region ?_ | refine WL2 inf rfl ?_ | refine WL_ld inf rfl rfl rfl rfl (Blk.cell (by assumption) rfl) ?_)
      exact W_ret1 rfl rfl rfl ⟨by rw [hD], hE⟩
    rw [if_neg (by rw [show (s == t) = false from h1]; simp)] at hD
    refine Wg rfl (W_region ?_)
    repeat (first | refine WL1 rfl ?_ | refine WLe rfl rfl ?_ | refine W_region ?_ | refine WL2 inf rfl ?_ | refine WL_ld inf rfl rfl rfl rfl (Blk.cell (by assumption) rfl) ?_)
    refine WL_callq rfl rfl rfl rfl rfl enters_selems rfl (fun _ => selems_any s t _ hs ht) ?_
    repeat (first | refine WL1 rfl ?_ | refine WLe rfl rfl ?_ | refine W_region ?_ | refine WL2 inf rfl ?_ | refine WL_ld inf rfl rfl rfl rfl (Blk.cell (by assumption) rfl) ?_)
    refine W_cond rfl rfl (fun h4 => ?_) (fun h4 => ?_)
    · have h4' : (refD ((elemD s).getD []) && refD ((elemD t).getD [])) = true := h4
      rw [if_pos h4'] at hD
      simp only [Bool.and_eq_true] at h4'
      have hl := elemD_len h4'.1
      have he2 := elemD_le t
      refine Wg rfl (W_region ?_)
      repeat (first | refine WL1 rfl ?_ | refine WLe rfl rfl ?_ | refine W_region ?_ | refine WL2 inf rfl ?_ | refine WL_ld inf rfl rfl rfl rfl (Blk.cell (by assumption) rfl) ?_)
      refine WL_cat (b := [91]) rfl rfl rfl rfl (fun _ => by simp; omega) (r := r ++ [91]) rfl ?_
      repeat (first | refine WL1 rfl ?_ | refine WLe rfl rfl ?_ | refine W_region ?_ | refine WL2 inf rfl ?_ | refine WL_ld inf rfl rfl rfl rfl (Blk.cell (by assumption) rfl) ?_)
      refine Wr rfl (r ++ [91], (elemD s).getD [], (elemD t).getD []) (by simp only; omega) ⟨hE, by simp; omega, Nat.le_trans he2 ht, ?_⟩ rfl ⟨rfl, rfl, rfl, rfl, trivial⟩
      rw [hD, hl]
    rw [if_neg (by rw [show (refD ((elemD s).getD []) && refD ((elemD t).getD [])) = false from h4]; simp)] at hD
    refine Wg rfl (W_region ?_)
    repeat (first | refine WL1 rfl ?_ | refine WLe rfl rfl ?_ | refine W_region ?_ | refine WL2 inf rfl ?_ | refine WL_ld inf rfl rfl rfl rfl (Blk.cell (by assumption) rfl) ?_)
    refine WL_callq rfl rfl rfl rfl rfl enters_dclass rfl (fun _ => dclass_any s _ hs) ?_
    repeat (first | refine WL1 rfl ?_ | refine WLe rfl rfl ?_ | refine W_region ?_ | refine WL2 inf rfl ?_ | refine WL_ld inf rfl rfl rfl rfl (Blk.cell (by assumption) rfl) ?_)
    refine WL_callq rfl rfl rfl rfl rfl enters_dclass rfl (fun _ => dclass_any t _ ht) ?_
    repeat (first | refine WL1 rfl ?_ | refine WLe rfl rfl ?_ | refine W_region ?_ | refine WL2 inf rfl ?_ | refine WL_ld inf rfl rfl rfl rfl (Blk.cell (by assumption) rfl) ?_)
    refine W_cut (fun c : L => [(7, [], .string (mkS r)), (11, [], .string (mkS c))]) (fun c W => Ext w W ∧ Len c ∧ mergeD P a b = r ++ ofD c) ?_ ?_
    · refine W_cond rfl rfl (fun h5 => ?_) (fun h5 => ?_)
      · rw [if_pos (show (!(classD s == []) && !(classD t == [])) = true from h5)] at hD
        refine Wg rfl (W_region ?_)
        repeat (first | refine WL1 rfl ?_ | refine WLe rfl rfl ?_ | refine W_region ?_ | refine WL2 inf rfl ?_ | refine WL_ld inf rfl rfl rfl rfl (Blk.cell (by assumption) rfl) ?_)
        refine WL_callq rfl rfl rfl rfl rfl enters_dclass rfl (fun _ => dclass_any s _ hs) ?_
        repeat (first | refine WL1 rfl ?_ | refine WLe rfl rfl ?_ | refine W_region ?_ | refine WL2 inf rfl ?_ | refine WL_ld inf rfl rfl rfl rfl (Blk.cell (by assumption) rfl) ?_)
        refine WL_callq rfl rfl rfl rfl rfl enters_dclass rfl (fun _ => dclass_any t _ ht) ?_
        repeat (first | refine WL1 rfl ?_ | refine WLe rfl rfl ?_ | refine W_region ?_ | refine WL2 inf rfl ?_ | refine WL_ld inf rfl rfl rfl rfl (Blk.cell (by assumption) rfl) ?_)
        refine WL_call rfl rfl rfl rfl rfl enters_scommon rfl (scommon_any P (classD s) (classD t) pv _ (hP.ext hE) (by unfold Len; omega) (by unfold Len; omega) hf hm) ?_
        rintro e w2 ⟨rfl, hE2, hcl⟩
        refine ⟨_, rfl, ?_⟩
        repeat (first | refine WL1 rfl ?_ | refine WLe rfl rfl ?_ | refine W_region ?_ | refine WL2 inf rfl ?_ | refine WL_ld inf rfl rfl rfl rfl (Blk.cell (by assumption) rfl) ?_)
        exact WLm rfl _ ⟨hE.then_ hE2, hcl, hD⟩ rfl ⟨rfl, rfl, trivial⟩
      · rw [if_neg (by rw [show (!(classD s == []) && !(classD t == [])) = false from h5]; simp)] at hD
        exact Wm rfl objectS ⟨hE, by unfold Len; decide, hD⟩ rfl ⟨rfl, rfl, trivial⟩
    · rintro c W ⟨hE, hcl, hD⟩
      have := ofD_le c
      refine Wg rfl (W_region ?_)
      repeat (first | refine WL1 rfl ?_ | refine WLe rfl rfl ?_ | refine W_region ?_ | refine WL2 inf rfl ?_ | refine WL_ld inf rfl rfl rfl rfl (Blk.cell (by assumption) rfl) ?_)
      refine WL_callq rfl rfl rfl rfl rfl enters_dof rfl (fun _ => dof_any c _ hcl) ?_
      refine WL_cat rfl rfl rfl rfl (fun _ => by omega) (r := r ++ ofD c) rfl ?_
      repeat (first | refine WL1 rfl ?_ | refine WLe rfl rfl ?_ | refine W_region ?_ | refine WL2 inf rfl ?_ | refine WL_ld inf rfl rfl rfl rfl (Blk.cell (by assumption) rfl) ?_)
      exact W_ret1 rfl rfl rfl ⟨by rw [hD], hE⟩
  · intro H
    refine Wg rfl (W_region ?_)
    repeat (first | refine WL1 rfl ?_ | refine WLe rfl rfl ?_ | refine W_region ?_ | refine WL2 inf rfl ?_ | refine WL_ld inf rfl rfl rfl rfl (Blk.cell (by assumption) rfl) ?_)
    refine WL_call rfl rfl rfl rfl rfl enters_sknown rfl (sknown_any P a pv _ hP ha) ?_
    rintro e w1 ⟨rfl, hE1⟩
    refine ⟨_, rfl, ?_⟩
    repeat (first | refine WL1 rfl ?_ | refine WLe rfl rfl ?_ | refine W_region ?_ | refine WL2 inf rfl ?_ | refine WL_ld inf rfl rfl rfl rfl (Blk.cell (by assumption) rfl) ?_)
    refine WL_callg rfl rfl rfl enters_sknown rfl (fun _ => sknown_any P b pv _ (hP.ext hE1) hb) ?_
    intro w2 hE2
    repeat (first | refine WL1 rfl ?_ | refine WLe rfl rfl ?_ | refine W_region ?_ | refine WL2 inf rfl ?_ | refine WL_ld inf rfl rfl rfl rfl (Blk.cell (by assumption) rfl) ?_)
    refine WL_callq rfl rfl rfl rfl rfl enters_ref rfl (fun _ => ref_any a _ ha) ?_
    repeat (first | refine WL1 rfl ?_ | refine WLe rfl rfl ?_ | refine W_region ?_ | refine WL2 inf rfl ?_ | refine WL_ld inf rfl rfl rfl rfl (Blk.cell (by assumption) rfl) ?_)
    refine WL_callq rfl rfl rfl rfl rfl enters_ref rfl (fun _ => ref_any b _ hb) ?_
    repeat (first | refine WL1 rfl ?_ | refine WLe rfl rfl ?_ | refine W_region ?_ | refine WL2 inf rfl ?_ | refine WL_ld inf rfl rfl rfl rfl (Blk.cell (by assumption) rfl) ?_)
    refine W_cond rfl rfl (fun h => ?_) (fun h => ?_)
    · rw [if_pos (show (!kn P a || !kn P b || !refD a || !refD b) = true from h)] at hT
      refine Wg rfl (W_region ?_)
      repeat (first | refine WL1 rfl ?_ | refine WLe rfl rfl ?_ | refine W_region ?_ | refine WL2 inf rfl ?_ | refine WL_ld inf rfl rfl rfl rfl (Blk.cell (by assumption) rfl) ?_)
      exact W_ret1 rfl rfl rfl ⟨by rw [hT]; rfl, hE1.then_ hE2⟩
    · have h' : (!kn P a || !kn P b || !refD a || !refD b) = false := h
      rw [if_neg (by rw [h']; simp)] at hT
      simp only [Bool.or_eq_false_iff, Bool.not_eq_false'] at h'
      have := kn_len h'.1.1.1
      refine Wg rfl (W_region ?_)
      refine WL1 rfl ?_
      refine WLlab rfl _ rfl ?_ (H ([], a, b) w2 ⟨hE1.then_ hE2, by simp; omega, hb, hT⟩)
      exact ⟨rfl, rfl, rfl, rfl, trivial⟩
end Go.Proofs.YtljcmmmajjmpoaaGreatDoor
