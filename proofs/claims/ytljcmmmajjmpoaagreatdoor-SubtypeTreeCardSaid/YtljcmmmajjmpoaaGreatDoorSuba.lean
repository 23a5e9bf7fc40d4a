/- desc.Elem, Class, Of, Known; link.Known; subtype: Class, Known, elems, Type. -/
import Derived.Test.YtljcmmmajjmpoaaGreatDoorClasses
namespace Go.Proofs.YtljcmmmajjmpoaaGreatDoor
open Go.RowKit Sp

def elemD (l : L) : Option L := if typeB l && hasP l 91 then some (l.drop 1) else none
def classD (l : L) : L := if typeB l && hasP l 76 then (l.take (l.length - 1)).drop 1 else []
def ofD (l : L) : L := if nameB l then 76 :: (l ++ [59]) else []
theorem typeB_pos {l : L} (h : typeB l = true) : 0 < l.length := by
  cases l with
  | nil => cases h
  | cons c r => simp
theorem byte0 (l : L) (h : 0 < l.length) (c : UInt8) (v : Int) (hv : v = c.toNat) : ((byteAt l 0 : Int) == v) = hasP l c := by
  cases l with
  | nil => simp at h
  | cons x r =>
    subst hv
    rw [show ((byteAt (x :: r) 0 : Int) == ((c.toNat : Nat) : Int)) = decide (x = c) from u8_eq c rfl]
    rfl
theorem enters_elem : Enters Tryz.prog 44 := enters_of Tryz.func44 (by kernel_rfl) rfl
theorem elem_any (l : L) (w : World) (hs : Len l) : Calls Tryz.prog 44 #[.string (mkS l)] w fun e w' => e = .returned (.tuple #[.string (mkS ((elemD l).getD [])), .bool (elemD l).isSome]) ∧ w = w' := by
  refine calls_W (args := [.string (mkS l)]) Tryz.func44 rfl rfl rfl ?_
  have hD : elemD l = if typeB l && hasP l 91 then some (l.drop 1) else none := rfl
  refine Wg rfl (W_region ?_)
  repeat (first | refine WL1 rfl ?_ | refine WLe rfl rfl ?_ | refine W_region ?_)
  refine WL_callq rfl rfl rfl rfl rfl enters_type rfl (fun _ => type_any l _ hs) ?_
  repeat (first | refine WL1 rfl ?_ | refine WLe rfl rfl ?_ | refine W_region ?_)
  refine WL_byte rfl rfl rfl rfl tS rfl rfl rfl (fun hs => by
    have h1 : ((!typeB l) == false && true) = true := hs
    rw [bl_mk]
    simp at h1
    have := typeB_pos h1
    omega) (b := byteAt l 0) rfl ?_
  repeat (first | refine WL1 rfl ?_ | refine WLe rfl rfl ?_ | refine W_region ?_)
  refine W_cond rfl rfl (fun hb => ?_) (fun hb => ?_)
  · have hb' : (!typeB l || !((byteAt l 0 : Int) == 91)) = true := hb
    rw [if_neg (by
      intro h
      simp at h
      have := typeB_pos h.1
      rw [byte0 l this 91 91 rfl, h.1, h.2] at hb'
      cases hb')] at hD
    refine Wg rfl (W_region ?_)
    repeat (first | refine WL1 rfl ?_ | refine WLe rfl rfl ?_ | refine W_region ?_)
    refine W_ret2 rfl rfl rfl rfl ⟨?_, rfl⟩
    rw [hD]; rfl
  · have hb' : (!typeB l || !((byteAt l 0 : Int) == 91)) = false := hb
    simp only [Bool.or_eq_false_iff, Bool.not_eq_false'] at hb'
    have hp := typeB_pos hb'.1
    rw [byte0 l hp 91 91 rfl] at hb'
    rw [if_pos (by rw [hb'.1, hb'.2]; rfl)] at hD
    refine Wg rfl (W_region ?_)
    repeat (first | refine WL1 rfl ?_ | refine WLe rfl rfl ?_ | refine W_region ?_)
    refine WL_from rfl rfl rfl rfl tS rfl rfl rfl (fun _ => ⟨by omega, by rw [bl_mk]; omega⟩) (r := l.drop 1) rfl ?_
    repeat (first | refine WL1 rfl ?_ | refine WLe rfl rfl ?_ | refine W_region ?_)
    refine W_ret2 rfl rfl rfl rfl ⟨?_, rfl⟩
    rw [hD]; rfl
theorem enters_dclass : Enters Tryz.prog 45 := enters_of Tryz.func45 (by kernel_rfl) rfl
theorem dclass_any (l : L) (w : World) (hs : Len l) : Calls Tryz.prog 45 #[.string (mkS l)] w fun e w' => e = .returned (.string (mkS (classD l))) ∧ w = w' := by
  refine calls_W (args := [.string (mkS l)]) Tryz.func45 rfl rfl rfl ?_
  have hD : classD l = if typeB l && hasP l 76 then (l.take (l.length - 1)).drop 1 else [] := rfl
  refine Wg rfl (W_region ?_)
  repeat (first | refine WL1 rfl ?_ | refine WLe rfl rfl ?_ | refine W_region ?_)
  refine WL_callq rfl rfl rfl rfl rfl enters_type rfl (fun _ => type_any l _ hs) ?_
  repeat (first | refine WL1 rfl ?_ | refine WLe rfl rfl ?_ | refine W_region ?_)
  refine WL_byte rfl rfl rfl rfl tS rfl rfl rfl (fun hs => by
    have h1 : ((!typeB l) == false && true) = true := hs
    rw [bl_mk]
    simp at h1
    have := typeB_pos h1
    omega) (b := byteAt l 0) rfl ?_
  repeat (first | refine WL1 rfl ?_ | refine WLe rfl rfl ?_ | refine W_region ?_)
  refine W_cond rfl rfl (fun hb => ?_) (fun hb => ?_)
  · have hb' : (!typeB l || !((byteAt l 0 : Int) == 76)) = true := hb
    rw [if_neg (by
      intro h
      simp at h
      have := typeB_pos h.1
      rw [byte0 l this 76 76 rfl, h.1, h.2] at hb'
      cases hb')] at hD
    refine Wg rfl (W_region ?_)
    repeat (first | refine WL1 rfl ?_ | refine WLe rfl rfl ?_ | refine W_region ?_)
    refine W_ret1 rfl rfl rfl ⟨?_, rfl⟩
    rw [hD]; rfl
  · have hb' : (!typeB l || !((byteAt l 0 : Int) == 76)) = false := hb
    simp only [Bool.or_eq_false_iff, Bool.not_eq_false'] at hb'
    have hp := typeB_pos hb'.1
    rw [byte0 l hp 76 76 rfl] at hb'
    rw [if_pos (by rw [hb'.1, hb'.2]; rfl)] at hD
    have hlen2 : 2 ≤ l.length := by
      rcases Nat.lt_or_ge 1 l.length with h | h
      · exact h
      · exfalso
        match l, hp, h with
        | [c], _, _ =>
          have hc : c = 76 := by simpa [hasP] using hb'.2
          subst hc
          have : typeB [76] = false := by decide
          rw [this] at hb'
          cases hb'.1
    unfold Len at hs
    refine Wg rfl (W_region ?_)
    repeat (first | refine WL1 rfl ?_ | refine WLe rfl rfl ?_ | refine W_region ?_)
    refine WL_lenS rfl rfl rfl tS rfl rfl rfl (m := l.length) rfl ?_
    refine WL_sub rfl rfl rfl rfl rfl rfl rfl (fun _ => by omega) ?_
    refine WL_part rfl rfl rfl rfl rfl tS rfl rfl rfl (fun _ => by rw [bl_mk]; omega) (r := (l.take (l.length - 1)).drop 1) (by rw [bl_mk, show ((l.length : Int) - 1).toNat = l.length - 1 by omega]; rfl) ?_
    repeat (first | refine WL1 rfl ?_ | refine WLe rfl rfl ?_ | refine W_region ?_)
    refine W_ret1 rfl rfl rfl ⟨?_, rfl⟩
    rw [hD]
theorem enters_dof : Enters Tryz.prog 49 := enters_of Tryz.func49 (by kernel_rfl) rfl
theorem dof_any (l : L) (w : World) (hs : Len l) : Calls Tryz.prog 49 #[.string (mkS l)] w fun e w' => e = .returned (.string (mkS (ofD l))) ∧ w = w' := by
  refine calls_W (args := [.string (mkS l)]) Tryz.func49 rfl rfl rfl ?_
  have hD : ofD l = if nameB l then 76 :: (l ++ [59]) else [] := rfl
  refine Wg rfl (W_region ?_)
  repeat (first | refine WL1 rfl ?_ | refine WLe rfl rfl ?_ | refine W_region ?_)
  refine WL_callq rfl rfl rfl rfl rfl enters_name rfl (fun _ => name_any l _ hs) ?_
  repeat (first | refine WL1 rfl ?_ | refine WLe rfl rfl ?_ | refine W_region ?_)
  refine W_cond rfl rfl (fun hb => ?_) (fun hb => ?_)
  · rw [if_neg (by simpa using hb)] at hD
    refine Wg rfl (W_region ?_)
    repeat (first | refine WL1 rfl ?_ | refine WLe rfl rfl ?_ | refine W_region ?_)
    refine W_ret1 rfl rfl rfl ⟨?_, rfl⟩
    rw [hD]; rfl
  · have hn : nameB l = true := by simpa using hb
    rw [if_pos hn] at hD
    have h30 : l.length ≤ 30 := by unfold nameB at hn; simp at hn; exact hn.2
    refine Wg rfl (W_region ?_)
    repeat (first | refine WL1 rfl ?_ | refine WLe rfl rfl ?_ | refine W_region ?_)
    refine WL_cat (a := [76]) rfl rfl rfl rfl (fun _ => by simp; omega) (r := 76 :: l) rfl ?_
    refine WL_cat (b := [59]) rfl rfl rfl rfl (fun _ => by simp; omega) (r := 76 :: (l ++ [59])) rfl ?_
    repeat (first | refine WL1 rfl ?_ | refine WLe rfl rfl ?_ | refine W_region ?_)
    refine W_ret1 rfl rfl rfl ⟨?_, rfl⟩
    rw [hD]
def trimL (t : L) : L := t.dropWhile (· == 91)
theorem enters_trimLeft : Enters Tryz.prog 117 := enters_of Tryz.func117 (by kernel_rfl) rfl
theorem trimLeft_any (l : L) (w : World) : Calls Tryz.prog 117 #[.string (mkS l), .string (mkS [91])] w fun e w' => e = .returned (.string (mkS (trimL l))) ∧ w = w' :=
  (Tryz.strings_TrimLeft_one (mkS l) 91 (by decide) w).mono fun _ _ ⟨h1, h2⟩ => ⟨h1, h2.symm⟩
theorem trimL_le (l : L) : (trimL l).length ≤ l.length := (List.dropWhile_sublist _).length_le
theorem classD_le (l : L) : (classD l).length ≤ l.length := by
  unfold classD
  split
  · simp; omega
  · simp
/-- The types in a type, or in a method's type. -/
def knownTs (l : L) : List L := if (methodV l).2.2 == 0 then (methodV l).1 ++ [(methodV l).2.1] else [l]
def knStep (out : List L) (t : L) : List L := if !(classD (trimL t) == []) && !out.contains (classD (trimL t)) then out ++ [classD (trimL t)] else out
/-- All classes in it. -/
def knownD (l : L) : List L := (knownTs l).foldl knStep []
theorem methodV_all (l : L) : (∀ s ∈ (methodV l).1, s.length ≤ l.length) ∧ (methodV l).2.1.length ≤ l.length ∧ (methodV l).1.length ≤ 8 := by
  rw [methodV_eq]
  have h1 := paramsD_le 8 (cutP l 40)
  have h2 := cutP_le l 40
  have h3 := cutP_le (paramsD 8 (cutP l 40)).2 41
  split
  · exact ⟨fun s hs => by have := h1.1 s hs; omega, by simp only; omega, h1.2.2⟩
  · simp
theorem knownTs_le (l : L) : (∀ s ∈ knownTs l, s.length ≤ l.length) ∧ (knownTs l).length ≤ 9 := by
  have h := methodV_all l
  unfold knownTs
  split
  · refine ⟨fun s hs => ?_, by simp; omega⟩
    rcases List.mem_append.1 hs with hs | hs
    · exact h.1 s hs
    · simp at hs; subst hs; exact h.2.1
  · simp
theorem enters_dknown : Enters Tryz.prog 79 := enters_of Tryz.func79 (by kernel_rfl) rfl
set_option maxRecDepth 100000 in
set_option maxHeartbeats 4000000 in
theorem dknown_any (l : L) (w : World) (hs : Len l) : Calls Tryz.prog 79 #[.string (mkS l)] w fun e w' => ∃ v, e = .returned v ∧ Ext w w' ∧ OwnR w.heap.size 9 1 w' v ((knownD l).map strC) ∧ ∀ s ∈ knownD l, Len s := by
  have hmle := methodV_all l
  have hkle := knownTs_le l
  unfold Len at hs
  refine calls_W (args := [.string (mkS l)]) Tryz.func79 rfl rfl rfl ?_
  refine Wg rfl (W_region ?_)
  repeat (first | refine WL1 rfl ?_ | refine WLe rfl rfl ?_ | refine W_region ?_ | refine WL2 inf rfl ?_ | refine WL_ld inf rfl rfl rfl rfl (Blk.cell (by assumption) rfl) ?_)
  refine WL_bsl (cs := strC l) rfl rfl rfl rfl rfl (bs40_1 _ _) ?_
  rintro h w1 rfl hh hE1
  repeat (first | refine WL1 rfl ?_ | refine WLe rfl rfl ?_ | refine W_region ?_ | refine WL2 inf rfl ?_ | refine WL_ld inf rfl rfl rfl rfl (Blk.cell (by assumption) rfl) ?_)
  refine WL_call rfl rfl rfl rfl rfl enters_method rfl (method_any l _ hs) ?_
  rintro e w2 ⟨mv, rfl, hE2, hown⟩
  refine ⟨_, rfl, ?_⟩
  have hz1 := hE1.size
  have hz2 := hE2.size
  repeat (first | refine WL1 rfl ?_ | refine WLe rfl rfl ?_ | refine W_region ?_ | refine WL2 inf rfl ?_ | refine WL_ld inf rfl rfl rfl rfl (Blk.cell (by assumption) rfl) ?_)
  refine W_cut (fun v : Value => [(2, [], .slice none 0 0), (3, [], v)]) (fun v W => Ext w W ∧ OwnR w.heap.size 9 1 W v ((knownTs l).map strC)) ?_ ?_
  · refine W_cond rfl rfl (fun hb => ?_) (fun hb => ?_)
    · refine Wg rfl (W_region ?_)
      repeat (first | refine WL1 rfl ?_ | refine WLe rfl rfl ?_ | refine W_region ?_ | refine WL2 inf rfl ?_ | refine WL_ld inf rfl rfl rfl rfl (Blk.cell (by assumption) rfl) ?_)
      refine WL_bsl (cs := strC (methodV l).2.1) rfl rfl rfl rfl rfl (bs40_1 _ _) ?_
      rintro g w3 rfl hg hE3
      refine WL_app ei (ncs := [strC (methodV l).2.1]) rfl rfl rfl rfl rfl rfl (hown.ext hE3) hg.cells rfl (by simp [strC]) (by simp [strC, Value.oneCell']) (by rw [List.length_map]; omega) (by have := hE3.size; omega) ?_
      rintro v4 w4 hown4 hg4 hr4
      repeat (first | refine WL1 rfl ?_ | refine WLe rfl rfl ?_ | refine W_region ?_ | refine WL2 inf rfl ?_ | refine WL_ld inf rfl rfl rfl rfl (Blk.cell (by assumption) rfl) ?_)
      refine WLm rfl v4 ⟨grown_ext hg4 ((hE1.then_ hE2).then_ hE3) fun b hb => by have := (hown.own b hb).1; omega, ?_⟩ rfl ⟨rfl, rfl, trivial⟩
      have hk : knownTs l = (methodV l).1 ++ [(methodV l).2.1] := by unfold knownTs; rw [if_pos hb]
      rw [hk, List.map_append]
      exact hown4.weak (by omega)
    · refine Wm rfl (.slice (some ⟨w.heap.size, 0, none⟩) 1 1) ⟨hE1.then_ hE2, ?_⟩ rfl ⟨rfl, rfl, trivial⟩
      have hk : knownTs l = [l] := by unfold knownTs; rw [if_neg (by rw [show ((methodV l).2.2 == 0) = false from hb]; simp)]
      rw [hk]
      exact OwnR.of_blk (css := [strC l]) (by simpa using hh.ext hE2) (by simp [strC]) rfl (Nat.le_refl _) (by omega)
  · rintro v W ⟨hE, hownT⟩
    obtain ⟨A, c, rfl⟩ := hownT.val
    rw [List.length_map] at *
    refine Wg rfl (W_region ?_)
    repeat (first | refine WL1 rfl ?_ | refine WLe rfl rfl ?_ | refine W_region ?_ | refine WL2 inf rfl ?_ | refine WL_ld inf rfl rfl rfl rfl (Blk.cell (by assumption) rfl) ?_)
    refine W_loop (fun x : Nat × Value => [(2, [], x.2), (24, [], .slice A (knownTs l).length c), (25, [], .int .i64 (knownTs l).length), (26, [], .int .i64 x.1)])
      (fun x W => x.1 ≤ (knownTs l).length ∧ Ext w W ∧ OwnR w.heap.size 9 1 W (.slice A (knownTs l).length c) ((knownTs l).map strC) ∧ OwnR w.heap.size 9 1 W x.2 ((((knownTs l).take x.1).foldl knStep []).map strC) ∧ (∀ b, Value.ownBlock x.2 = some b → Value.ownBlock (.slice A (knownTs l).length c) ≠ some b) ∧ (((knownTs l).take x.1).foldl knStep []).length ≤ x.1 ∧ ∀ s ∈ ((knownTs l).take x.1).foldl knStep [], s.length ≤ l.length)
      (fun x => (knownTs l).length - x.1) (0, .slice none 0 0) (fun _ => rfl) ⟨rfl, rfl, rfl, rfl, trivial⟩ ⟨Nat.zero_le _, hE, hownT, OwnR.nil _ _ _ _, by simp [Value.ownBlock], by simp, by simp⟩ ?_
    clear hownT hE
    rintro ⟨k, vo⟩ W ⟨hk, hE, hownT, hown2, hdis, hfl, hfle⟩
    dsimp only at hk hownT hown2 hdis hfl hfle ⊢
    refine Wg rfl (W_region ?_)
    repeat (first | refine WL1 rfl ?_ | refine WLe rfl rfl ?_ | refine W_region ?_ | refine WL2 inf rfl ?_ | refine WL_ld inf rfl rfl rfl rfl (Blk.cell (by assumption) rfl) ?_)
    refine W_cond rfl rfl (fun hb => ?_) (fun hb => ?_)
    · have hlt : k < (knownTs l).length := by simpa using hb
      have hx : (knownTs l)[k]? = some (knownTs l)[k] := List.getElem?_eq_getElem hlt
      have hft := fold_take knStep [] hx
      generalize (knownTs l)[k] = t at hx hft
      have hmem := List.mem_of_getElem? hx
      have htl := hkle.1 t hmem
      have htrl := trimL_le t
      have hcl := classD_le (trimL t)
      generalize hout : ((knownTs l).take k).foldl knStep [] = out at hown2 hfl hfle hft
      obtain ⟨g9, c', hv, hge, hgl, hcells⟩ := hownT.cells (i := k) (cs := strC t) (by rw [List.getElem?_map, hx]; rfl)
      have hA : A = some ⟨g9, 0, none⟩ := congrArg (fun v => match v with | Value.slice A _ _ => A | _ => none) hv
      subst hA
      have hsl : Sl StrR 1 Any_ W vo out := hown2.sl (strEach _ _ _ fun s hs => by have := hfle s hs; unfold Len; omega) fun _ _ => trivial
      refine Wg rfl (W_region ?_)
      refine WL_ix inf rfl rfl rfl rfl rfl (fun _ => ⟨by omega, by omega⟩) ?_
      refine WL_ld inf rfl rfl rfl rfl (hcells.at_ (j := 0) rfl) ?_
      repeat (first | refine WL1 rfl ?_ | refine WLe rfl rfl ?_ | refine W_region ?_ | refine WL2 inf rfl ?_ | refine WL_ld inf rfl rfl rfl rfl (Blk.cell (by assumption) rfl) ?_)
      refine WL_callq rfl rfl rfl rfl rfl enters_trimLeft rfl (fun _ => trimLeft_any t _) ?_
      refine WL_callq rfl rfl rfl rfl rfl enters_dclass rfl (fun _ => dclass_any (trimL t) _ (by unfold Len; omega)) ?_
      repeat (first | refine WL1 rfl ?_ | refine WLe rfl rfl ?_ | refine W_region ?_ | refine WL2 inf rfl ?_ | refine WL_ld inf rfl rfl rfl rfl (Blk.cell (by assumption) rfl) ?_)
      refine WL_callq rfl rfl rfl rfl rfl enters_hasStr rfl (fun _ => hasStr_any (classD (trimL t)) hsl) ?_
      repeat (first | refine WL1 rfl ?_ | refine WLe rfl rfl ?_ | refine W_region ?_ | refine WL2 inf rfl ?_ | refine WL_ld inf rfl rfl rfl rfl (Blk.cell (by assumption) rfl) ?_)
      refine W_cond rfl rfl (fun hc => ?_) (fun hc => ?_)
      · have hc' : (!(classD (trimL t) == []) && !out.contains (classD (trimL t))) = true := hc
        have hst : knStep out t = out ++ [classD (trimL t)] := by unfold knStep; rw [if_pos hc']
        refine Wg rfl (W_region ?_)
        repeat (first | refine WL1 rfl ?_ | refine WLe rfl rfl ?_ | refine W_region ?_ | refine WL2 inf rfl ?_ | refine WL_ld inf rfl rfl rfl rfl (Blk.cell (by assumption) rfl) ?_)
        refine WL_bsl (cs := strC (classD (trimL t))) rfl rfl rfl rfl rfl (bs40_1 _ _) ?_
        rintro g w3 rfl hg hE3
        refine WL_app ei (ncs := [strC (classD (trimL t))]) rfl rfl rfl rfl rfl rfl (hown2.ext hE3) hg.cells rfl (by simp [strC]) (by simp [strC, Value.oneCell']) (by rw [List.length_map]; omega) (by have := hE3.size; have := hE.size; omega) ?_
        rintro v4 w4 hown4 hg4 hr4
        have hne4 : ∀ b, Value.ownBlock v4 = some b → Value.ownBlock (.slice (some ⟨g9, 0, none⟩) (knownTs l).length c) ≠ some b := fun b hb => by
          rcases hr4 with h | h
          · exact hdis b (by rw [← h]; exact hb)
          · rw [h] at hb
            cases hb
            intro e
            have e2 : g9 = w3.heap.size := by simpa [Value.ownBlock] using e
            have := hE3.size
            omega
        repeat (first | refine WL1 rfl ?_ | refine WLe rfl rfl ?_ | refine W_region ?_ | refine WL2 inf rfl ?_ | refine WL_ld inf rfl rfl rfl rfl (Blk.cell (by assumption) rfl) ?_)
        refine WL_add rfl rfl rfl rfl rfl rfl rfl (fun _ => by omega) ?_
        repeat (first | refine WL1 rfl ?_ | refine WLe rfl rfl ?_ | refine W_region ?_ | refine WL2 inf rfl ?_ | refine WL_ld inf rfl rfl rfl rfl (Blk.cell (by assumption) rfl) ?_)
        refine WLr rfl (k + 1, v4) (by simp only; omega) ⟨hlt, grown_ext hg4 (hE.then_ hE3) fun b hb => (hown2.own b hb).1, ?_, ?_, hne4, ?_, ?_⟩ rfl ⟨rfl, rfl, rfl, rfl, trivial⟩
        · exact (hownT.ext hE3).kept fun b hb hlb => hg4.block b hlb fun e => hdis b e.symm hb
        · rw [hft, hst, List.map_append]; exact hown4
        · rw [hft, hst]; simp; omega
        · rw [hft, hst]
          intro s hs
          rcases List.mem_append.1 hs with h | h
          · exact hfle s h
          · simp at h; subst h; omega
      · have hc' : (!(classD (trimL t) == []) && !out.contains (classD (trimL t))) = false := hc
        have hst : knStep out t = out := by unfold knStep; rw [if_neg (by rw [hc']; simp)]
        refine Wg rfl (W_region ?_)
        refine WL_add rfl rfl rfl rfl rfl rfl rfl (fun _ => by omega) ?_
        repeat (first | refine WL1 rfl ?_ | refine WLe rfl rfl ?_ | refine W_region ?_ | refine WL2 inf rfl ?_ | refine WL_ld inf rfl rfl rfl rfl (Blk.cell (by assumption) rfl) ?_)
        refine WLr rfl (k + 1, vo) (by simp only; omega) ⟨hlt, hE, hownT, ?_, hdis, ?_, ?_⟩ rfl ⟨rfl, rfl, rfl, rfl, trivial⟩
        · rw [hft, hst]; exact hown2
        · rw [hft, hst]; omega
        · rw [hft, hst]; exact hfle
    · have hk' : k = (knownTs l).length := by simp at hb; omega
      subst hk'
      rw [List.take_length] at hown2 hfle
      refine Wg rfl (W_region ?_)
      repeat (first | refine WL1 rfl ?_ | refine WLe rfl rfl ?_ | refine W_region ?_ | refine WL2 inf rfl ?_ | refine WL_ld inf rfl rfl rfl rfl (Blk.cell (by assumption) rfl) ?_)
      refine W_ret1 rfl rfl rfl ⟨vo, rfl, hE, hown2, fun s hs => ?_⟩
      have := hfle s hs
      unfold Len
      omega
/-- Are all classes in it the program's? -/
def knP (P : Option (List Cls)) (d : L) : Bool := !(knownD d).any fun s => !(findP P s).isSome
theorem enters_known1 : Enters Tryz.prog 80 := enters_of Tryz.func80 (by kernel_rfl) rfl
theorem known1_any (P : Option (List Cls)) (s : L) (pv : Value) (g : Nat) (w : World) (hP : PrgV w pv P) (hB : Blk w g 26 [pv]) :
    Calls Tryz.prog 80 #[.string (mkS s), .pointer (some ⟨g, 0, none⟩)] w fun e w' => e = .returned (.bool (!(findP P s).isSome)) ∧ Ext w w' := by
  refine calls_W (args := [.string (mkS s), .pointer (some ⟨g, 0, none⟩)]) Tryz.func80 rfl rfl rfl ?_
  refine Wg rfl (W_region ?_)
  repeat (first | refine WL1 rfl ?_ | refine WLe rfl rfl ?_ | refine W_region ?_ | refine WL2 inf rfl ?_ | refine WL_ld inf rfl rfl rfl rfl (Blk.cell (by assumption) rfl) ?_)
  refine WL_call rfl rfl rfl rfl rfl enters_find rfl (find_any P s pv _ hP) ?_
  rintro e w2 ⟨cl, rfl, hE2, hR⟩
  refine ⟨_, rfl, ?_⟩
  have hz := hR.len
  repeat (first | refine WL1 rfl ?_ | refine WLe rfl rfl ?_ | refine W_region ?_ | refine WL2 inf rfl ?_ | refine WL_ld inf rfl rfl rfl rfl (Blk.cell (by assumption) rfl) ?_)
  refine WL_alloc inf rfl rfl rfl rfl rfl ?_
  rintro g6 w3 hg6 hB3 hE3
  refine WL_sta inf (cs' := cl) rfl rfl rfl (by rw [hz]; rfl) (ClsR.one _ _ _ _ hR) rfl hB3 (by rw [hz]; rfl) ?_
  rintro w4 hB4 u4
  repeat (first | refine WL1 rfl ?_ | refine WLe rfl rfl ?_ | refine W_region ?_ | refine WL2 inf rfl ?_ | refine WL_ld inf rfl rfl rfl rfl (Blk.cell (by assumption) rfl) ?_)
  exact W_ret1 rfl rfl rfl ⟨rfl, u4.ext (hE2.then_ hE3) (by have := hE2.size; omega)⟩
theorem enters_pknown : Enters Tryz.prog 41 := enters_of Tryz.func41 (by kernel_rfl) rfl
theorem pknown_any (P : Option (List Cls)) (d : L) (pv : Value) (w : World) (hP : PrgV w pv P) (hs : Len d) :
    Calls Tryz.prog 41 #[pv, .string (mkS d)] w fun e w' => e = .returned (.bool (knP P d)) ∧ Ext w w' := by
  have hpc := hP.one
  have hcells : pv.cells = [pv].toArray := by cases pv <;> first | rfl | cases hpc
  refine calls_W (args := [pv, .string (mkS d)]) Tryz.func41 rfl rfl rfl ?_
  refine Wg rfl (W_region ?_)
  refine WL_box (cs := [pv]) rfl rfl hcells rfl rfl ?_
  rintro g w1 hg hB hE
  repeat (first | refine WL1 rfl ?_ | refine WLe rfl rfl ?_ | refine W_region ?_ | refine WL2 inf rfl ?_ | refine WL_ld inf rfl rfl rfl rfl (Blk.cell (by assumption) rfl) ?_)
  refine WL_call rfl rfl rfl rfl rfl enters_dknown rfl (dknown_any d _ hs) ?_
  rintro e w2 ⟨v, rfl, hE2, hown, hl⟩
  refine ⟨_, rfl, ?_⟩
  have hsl : Sl StrR 1 Any_ w2 v (knownD d) := hown.sl (strEach _ _ _ hl) fun _ _ => trivial
  replace hB := hB.ext hE2
  repeat (first | refine WL1 rfl ?_ | refine WLe rfl rfl ?_ | refine W_region ?_ | refine WL2 inf rfl ?_ | refine WL_ld inf rfl rfl rfl rfl (Blk.cell (by assumption) rfl) ?_)
  refine WL_call rfl rfl rfl rfl rfl enters_cfL rfl (cfL_any (cap := [.pointer (some ⟨g, 0, none⟩)]) (fun s => !(findP P s).isSome) hsl enters_known1 (fun W x hW _ _ => known1_any P x pv g W (hP.ext ((hE.then_ hE2).then_ hW)) (hB.ext hW))) ?_
  rintro e w3 ⟨rfl, hE3⟩
  refine ⟨_, rfl, ?_⟩
  repeat (first | refine WL1 rfl ?_ | refine WLe rfl rfl ?_ | refine W_region ?_ | refine WL2 inf rfl ?_ | refine WL_ld inf rfl rfl rfl rfl (Blk.cell (by assumption) rfl) ?_)
  exact W_ret1 rfl rfl rfl ⟨rfl, (hE.then_ hE2).then_ hE3⟩

section
variable {P : Program} {n : Nat} {fr : Fr} {w : World} {k : Kt} {ops : Array Oper} {rest : List Oper}
/-- A call under a guard, of a function that yields something of a kind. -/
theorem WL_callgE {p : List (Nat × Bool)} {d f : Nat} {args : List Operand} {ts : Array TypeId} {ty : TypeId} {pos : String} {aft : Array Edge} {gd : Option (Nat × Bool)} {vs : List Value} {R : Value → World → Prop}
    (hp : pathOf ops fr ⟨some d, .call { callee := .value (.func f), args := args.toArray, argTypes := ts }, ty, pos, aft, gd⟩ = some p) (hok : okO fr p args = true)
    (hck : (decide (d < n) && fresh d fr && freshP d p) = true) (hen : Enters P f) (hvs : args.map (evG fr) = vs) (hc : satB fr p = true → Calls P f vs.toArray w fun e w' => ∃ v, e = .returned v ∧ R v w')
    (h : ∀ v w', (satB fr p = true → R v w') → (satB fr p = false → w' = w) → WL P n ops rest ((d, p, v) :: fr) w' k) :
    WL P n ops (⟨some d, .call { callee := .value (.func f), args := args.toArray, argTypes := ts }, ty, pos, aft, gd⟩ :: rest) fr w k := fun a ha => by
  simp only [Bool.and_eq_true] at hck
  refine wpList_step fun K hK => ?_
  rw [wanted_path ha hp]
  cases hsat : satB fr p
  · rw [if_neg (by simp)]
    exact hK _ _ (h undef w (by rw [hsat]; intro h; cases h) (fun _ => rfl) _ (ha.put (by simpa using hck.1.1) hck.1.2 hck.2 (by simp)))
  · rw [if_pos rfl]
    unfold Oper.wp
    have he : (execOp a.eval ⟨some d, .call { callee := .value (.func f), args := args.toArray, argTypes := ts }, ty, pos, aft, gd⟩).run P w = .ok (.enter f vs.toArray) w := by
      have hm : args.map a.eval = vs := by
        rw [← hvs]
        exact List.map_congr_left fun x hx => ha.eval hsat _ hok x hx
      simp only [execOp, resolve, Sem.run_bind, List.map_toArray, hm]
      simp [Deferred.ofValue, Act.eval, invoke, hen _ w]
    rw [he, Oper.upon_enter]
    refine (hc hsat).mono fun e w' hR => ?_
    obtain ⟨v, rfl, hR⟩ := hR
    exact hK _ _ (h v w' (fun _ => hR) (by rw [hsat]; intro h; cases h) _ (ha.put (by simpa using hck.1.1) hck.1.2 hck.2 (by simp [hsat])))
end
/-- Is a class one of another? -/
def subcD (P : Option (List Cls)) (a b : L) : Bool := (chainD P a).contains b || (ifacesD P a).contains b
theorem enters_sclass : Enters Tryz.prog 13 := enters_of Tryz.func13 (by kernel_rfl) rfl
set_option maxRecDepth 100000 in
theorem sclass_any (P : Option (List Cls)) (a b : L) (pv : Value) (w : World) (hP : PrgV w pv P) (hl : Len a) (hf : FitP P) :
    Calls Tryz.prog 13 #[pv, .string (mkS a), .string (mkS b)] w fun e w' => e = .returned (.bool (subcD P a b)) ∧ Ext w w' := by
  refine calls_W (args := [pv, .string (mkS a), .string (mkS b)]) Tryz.func13 rfl rfl rfl ?_
  refine Wg rfl (W_region ?_)
  repeat (first | refine WL1 rfl ?_ | refine WLe rfl rfl ?_ | refine W_region ?_ | refine WL2 inf rfl ?_ | refine WL_ld inf rfl rfl rfl rfl (Blk.cell (by assumption) rfl) ?_)
  refine WL_call rfl rfl rfl rfl rfl enters_supers rfl (supers_any P a pv _ hP hl hf.1) ?_
  rintro e w1 ⟨cv, rfl, hE1, hown, hcl⟩
  refine ⟨_, rfl, ?_⟩
  have hsl : Sl StrR 1 Any_ w1 cv (chainD P a) := hown.sl (strEach _ _ _ hcl) fun _ _ => trivial
  repeat (first | refine WL1 rfl ?_ | refine WLe rfl rfl ?_ | refine W_region ?_ | refine WL2 inf rfl ?_ | refine WL_ld inf rfl rfl rfl rfl (Blk.cell (by assumption) rfl) ?_)
  refine WL_callq rfl rfl rfl rfl rfl enters_hasStr rfl (fun _ => hasStr_any b hsl) ?_
  repeat (first | refine WL1 rfl ?_ | refine WLe rfl rfl ?_ | refine W_region ?_ | refine WL2 inf rfl ?_ | refine WL_ld inf rfl rfl rfl rfl (Blk.cell (by assumption) rfl) ?_)
  refine WL_callgE (R := fun v w' => Ext w1 w' ∧ OwnR w1.heap.size 9 1 w' v ((ifacesD P a).map strC) ∧ (∀ s ∈ ifacesD P a, Len s)) rfl rfl rfl enters_interfaces rfl (fun _ => interfaces_any P a pv _ (hP.ext hE1) hl hf) ?_
  intro v w2 h1 h2
  have hE2 : Ext w1 w2 := by
    cases hs : (chainD P a).contains b with
    | true => exact (h2 (by show ((chainD P a).contains b == false && true) = false; rw [hs]; rfl)) ▸ Ext.rfl' w1
    | false => exact (h1 (by show ((chainD P a).contains b == false && true) = true; rw [hs]; rfl)).1
  repeat (first | refine WL1 rfl ?_ | refine WLe rfl rfl ?_ | refine W_region ?_ | refine WL2 inf rfl ?_ | refine WL_ld inf rfl rfl rfl rfl (Blk.cell (by assumption) rfl) ?_)
  refine WL_callq (v := .bool ((ifacesD P a).contains b)) rfl rfl rfl rfl rfl enters_hasStr rfl (fun hs => by
    obtain ⟨_, ho, hl⟩ := h1 hs
    exact hasStr_any b (ho.sl (R := StrR) (B := Any_) (strEach _ _ _ hl) fun _ _ => trivial)) ?_
  repeat (first | refine WL1 rfl ?_ | refine WLe rfl rfl ?_ | refine W_region ?_ | refine WL2 inf rfl ?_ | refine WL_ld inf rfl rfl rfl rfl (Blk.cell (by assumption) rfl) ?_)
  exact W_ret1 rfl rfl rfl ⟨rfl, hE1.then_ hE2⟩
/-- Is a type known? -/
def kn (P : Option (List Cls)) (t : L) : Bool := P.isSome && typeB t && knP P t
theorem enters_sknown : Enters Tryz.prog 17 := enters_of Tryz.func17 (by kernel_rfl) rfl
theorem sknown_any (P : Option (List Cls)) (t : L) (pv : Value) (w : World) (hP : PrgV w pv P) (hl : Len t) :
    Calls Tryz.prog 17 #[pv, .string (mkS t)] w fun e w' => e = .returned (.bool (kn P t)) ∧ Ext w w' := by
  obtain ⟨pa, rfl, hpa⟩ := hP.isNil
  have hs : P.isSome = !pa.isNone := by rw [hpa]; cases P <;> rfl
  refine calls_W (args := [.pointer pa, .string (mkS t)]) Tryz.func17 rfl rfl rfl ?_
  cases pa with
  | none =>
    refine Wg rfl (W_region ?_)
    repeat (first | refine WL1 rfl ?_ | refine WLe rfl rfl ?_ | refine W_region ?_ | refine WL2 inf rfl ?_ | refine WL_ld inf rfl rfl rfl rfl (Blk.cell (by assumption) rfl) ?_)
    refine WL_callq rfl rfl rfl rfl rfl enters_type rfl (fun _ => type_any t _ hl) ?_
    repeat (first | refine WL1 rfl ?_ | refine WLe rfl rfl ?_ | refine W_region ?_ | refine WL2 inf rfl ?_ | refine WL_ld inf rfl rfl rfl rfl (Blk.cell (by assumption) rfl) ?_)
    refine WL_callg rfl rfl rfl enters_pknown rfl (fun _ => pknown_any P t (.pointer none) _ hP hl) ?_
    intro w1 hE1
    repeat (first | refine WL1 rfl ?_ | refine WLe rfl rfl ?_ | refine W_region ?_ | refine WL2 inf rfl ?_ | refine WL_ld inf rfl rfl rfl rfl (Blk.cell (by assumption) rfl) ?_)
    refine W_ret1 rfl rfl rfl ⟨ret_bool ?_, hE1⟩
    unfold kn
    rw [hs]
    rfl
  | some a =>
    refine Wg rfl (W_region ?_)
    repeat (first | refine WL1 rfl ?_ | refine WLe rfl rfl ?_ | refine W_region ?_ | refine WL2 inf rfl ?_ | refine WL_ld inf rfl rfl rfl rfl (Blk.cell (by assumption) rfl) ?_)
    refine WL_callq rfl rfl rfl rfl rfl enters_type rfl (fun _ => type_any t _ hl) ?_
    repeat (first | refine WL1 rfl ?_ | refine WLe rfl rfl ?_ | refine W_region ?_ | refine WL2 inf rfl ?_ | refine WL_ld inf rfl rfl rfl rfl (Blk.cell (by assumption) rfl) ?_)
    refine WL_callg rfl rfl rfl enters_pknown rfl (fun _ => pknown_any P t (.pointer (some a)) _ hP hl) ?_
    intro w1 hE1
    repeat (first | refine WL1 rfl ?_ | refine WLe rfl rfl ?_ | refine W_region ?_ | refine WL2 inf rfl ?_ | refine WL_ld inf rfl rfl rfl rfl (Blk.cell (by assumption) rfl) ?_)
    refine W_ret1 rfl rfl rfl ⟨ret_bool ?_, hE1⟩
    unfold kn
    rw [hs]
    rfl
def refD (l : L) : Bool := typeB l && !(l == [73]) && !(l == [67])
theorem elemD_le (l : L) : ((elemD l).getD []).length ≤ l.length := by
  unfold elemD
  split
  · simp
  · simp
theorem enters_selems : Enters Tryz.prog 46 := enters_of Tryz.func46 (by kernel_rfl) rfl
theorem selems_any (a b : L) (w : World) (ha : Len a) (hb : Len b) :
    Calls Tryz.prog 46 #[.string (mkS a), .string (mkS b)] w fun e w' => e = .returned (.tuple #[.string (mkS ((elemD a).getD [])), .string (mkS ((elemD b).getD [])), .bool (refD ((elemD a).getD []) && refD ((elemD b).getD []))]) ∧ w = w' := by
  have h1 := elemD_le a
  have h2 := elemD_le b
  unfold Len at ha hb
  refine calls_W (args := [.string (mkS a), .string (mkS b)]) Tryz.func46 rfl rfl rfl ?_
  refine Wg rfl (W_region ?_)
  repeat (first | refine WL1 rfl ?_ | refine WLe rfl rfl ?_ | refine W_region ?_ | refine WL2 inf rfl ?_ | refine WL_ld inf rfl rfl rfl rfl (Blk.cell (by assumption) rfl) ?_)
  refine WL_callq rfl rfl rfl rfl rfl enters_elem rfl (fun _ => elem_any a _ ha) ?_
  repeat (first | refine WL1 rfl ?_ | refine WLe rfl rfl ?_ | refine W_region ?_ | refine WL2 inf rfl ?_ | refine WL_ld inf rfl rfl rfl rfl (Blk.cell (by assumption) rfl) ?_)
  refine WL_callq rfl rfl rfl rfl rfl enters_elem rfl (fun _ => elem_any b _ hb) ?_
  repeat (first | refine WL1 rfl ?_ | refine WLe rfl rfl ?_ | refine W_region ?_ | refine WL2 inf rfl ?_ | refine WL_ld inf rfl rfl rfl rfl (Blk.cell (by assumption) rfl) ?_)
  refine WL_callq rfl rfl rfl rfl rfl enters_ref rfl (fun _ => ref_any ((elemD a).getD []) _ (by unfold Len; omega)) ?_
  repeat (first | refine WL1 rfl ?_ | refine WLe rfl rfl ?_ | refine W_region ?_ | refine WL2 inf rfl ?_ | refine WL_ld inf rfl rfl rfl rfl (Blk.cell (by assumption) rfl) ?_)
  refine WL_callq rfl rfl rfl rfl rfl enters_ref rfl (fun _ => ref_any ((elemD b).getD []) _ (by unfold Len; omega)) ?_
  repeat (first | refine WL1 rfl ?_ | refine WLe rfl rfl ?_ | refine W_region ?_ | refine WL2 inf rfl ?_ | refine WL_ld inf rfl rfl rfl rfl (Blk.cell (by assumption) rfl) ?_)
  exact W_retL [.string (mkS ((elemD a).getD [])), .string (mkS ((elemD b).getD [])), .bool (refD ((elemD a).getD []) && refD ((elemD b).getD []))] rfl rfl ⟨rfl, rfl, rfl, trivial⟩ ⟨rfl, rfl⟩
/-- One step of another type after the other. -/
def goT (P : Option (List Cls)) : Nat → L → L → Bool
  | 0, _, _ => false
  | n + 1, a, b =>
    if a == b then true
    else if (elemD a).isSome && classD b == objectS then true
    else if !(classD a == []) && !(classD b == []) then subcD P (classD a) (classD b)
    else if refD ((elemD a).getD []) && refD ((elemD b).getD []) then goT P n ((elemD a).getD []) ((elemD b).getD [])
    else false
/-- Is a type one of another? -/
def typeD (P : Option (List Cls)) (a b : L) : Bool := if (!kn P a || !kn P b) = true then false else goT P (a.length + 1) a b
theorem refD_pos {l : L} (h : refD l = true) : 0 < l.length := by
  unfold refD at h
  simp only [Bool.and_eq_true] at h
  exact typeB_pos h.1.1
theorem elemD_len {a : L} (h : refD ((elemD a).getD []) = true) : a.length = ((elemD a).getD []).length + 1 := by
  have := refD_pos h
  unfold elemD at this ⊢
  by_cases h2 : (typeB a && hasP a 91) = true
  · rw [if_pos h2] at this ⊢
    simp at this ⊢
    omega
  · rw [if_neg h2] at this
    simp at this
theorem enters_stype : Enters Tryz.prog 19 := enters_of Tryz.func19 (by kernel_rfl) rfl
set_option maxRecDepth 100000 in
set_option maxHeartbeats 4000000 in
theorem stype_any (P : Option (List Cls)) (a b : L) (pv : Value) (w : World) (hP : PrgV w pv P) (ha : Len a) (hb : Len b) (hf : FitP P) :
    Calls Tryz.prog 19 #[pv, .string (mkS a), .string (mkS b)] w fun e w' => e = .returned (.bool (typeD P a b)) ∧ Ext w w' := by
  refine calls_W (args := [pv, .string (mkS a), .string (mkS b)]) Tryz.func19 rfl rfl rfl ?_
  have hT : typeD P a b = if (!kn P a || !kn P b) = true then false else goT P (a.length + 1) a b := rfl
  refine Wg rfl (W_region ?_)
  repeat (first | refine WL1 rfl ?_ | refine WLe rfl rfl ?_ | refine W_region ?_ | refine WL2 inf rfl ?_ | refine WL_ld inf rfl rfl rfl rfl (Blk.cell (by assumption) rfl) ?_)
  refine W_scope 0 (fun x : L × L => [(0, [], pv), (1, [], .string (mkS x.1)), (2, [], .string (mkS x.2))])
    (fun x W => Ext w W ∧ Len x.1 ∧ Len x.2 ∧ typeD P a b = goT P (x.1.length + 1) x.1 x.2) (fun x => x.1.length) rfl ?_ ?_
  · rintro ⟨s, t⟩ W ⟨hE, hs, ht, hD⟩
    dsimp only at hs ht hD ⊢
    have hcs := classD_le s
    have hct := classD_le t
    rw [goT] at hD
    refine Wg rfl (W_region ?_)
    repeat (first | refine WL1 rfl ?_ | refine WLe rfl rfl ?_ | refine W_region ?_ | refine WL2 inf rfl ?_ | refine WL_ld inf rfl rfl rfl rfl (Blk.cell (by assumption) rfl) ?_)
    refine WL_callq rfl rfl rfl rfl rfl enters_elem rfl (fun _ => elem_any s _ hs) ?_
    repeat (first | refine WL1 rfl ?_ | refine WLe rfl rfl ?_ | refine W_region ?_ | refine WL2 inf rfl ?_ | refine WL_ld inf rfl rfl rfl rfl (Blk.cell (by assumption) rfl) ?_)
    refine WL_callq rfl rfl rfl rfl rfl enters_dclass rfl (fun _ => dclass_any s _ hs) ?_
    repeat (first | refine WL1 rfl ?_ | refine WLe rfl rfl ?_ | refine W_region ?_ | refine WL2 inf rfl ?_ | refine WL_ld inf rfl rfl rfl rfl (Blk.cell (by assumption) rfl) ?_)
    refine WL_callq rfl rfl rfl rfl rfl enters_dclass rfl (fun _ => dclass_any t _ ht) ?_
    repeat (first | refine WL1 rfl ?_ | refine WLe rfl rfl ?_ | refine W_region ?_ | refine WL2 inf rfl ?_ | refine WL_ld inf rfl rfl rfl rfl (Blk.cell (by assumption) rfl) ?_)
    refine W_cond rfl rfl (fun h1 => ?_) (fun h1 => ?_)
    · have h1' : (s == t) = true := h1
      rw [if_pos h1'] at hD
      refine Wg rfl (W_cond rfl rfl (fun _ => ?_) (fun h => absurd (show (s == t) = false from h) (by rw [h1']; simp)))
      refine Wg rfl (W_region ?_)
      repeat (first | refine WL1 rfl ?_ | refine WLe rfl rfl ?_ | refine W_region ?_ | refine WL2 inf rfl ?_ | refine WL_ld inf rfl rfl rfl rfl (Blk.cell (by assumption) rfl) ?_)
      exact W_ret1 rfl rfl rfl ⟨ret_bool hD.symm, hE⟩
    rw [if_neg (by rw [show (s == t) = false from h1]; simp)] at hD
    refine Wg rfl (W_region ?_)
    repeat (first | refine WL1 rfl ?_ | refine WLe rfl rfl ?_ | refine W_region ?_ | refine WL2 inf rfl ?_ | refine WL_ld inf rfl rfl rfl rfl (Blk.cell (by assumption) rfl) ?_)
    refine W_cond rfl rfl (fun h2 => ?_) (fun h2 => ?_)
    · rw [if_pos (show ((elemD s).isSome && classD t == objectS) = true from h2)] at hD
      refine Wg rfl (W_region ?_)
      repeat (first | refine WL1 rfl ?_ | refine WLe rfl rfl ?_ | refine W_region ?_ | refine WL2 inf rfl ?_ | refine WL_ld inf rfl rfl rfl rfl (Blk.cell (by assumption) rfl) ?_)
      exact W_ret1 rfl rfl rfl ⟨ret_bool hD.symm, hE⟩
    rw [if_neg (by rw [show ((elemD s).isSome && classD t == objectS) = false from h2]; simp)] at hD
    refine Wg rfl (W_region ?_)
    repeat (first | refine WL1 rfl ?_ | refine WLe rfl rfl ?_ | refine W_region ?_ | refine WL2 inf rfl ?_ | refine WL_ld inf rfl rfl rfl rfl (Blk.cell (by assumption) rfl) ?_)
    refine W_cond rfl rfl (fun h3 => ?_) (fun h3 => ?_)
    · rw [if_pos (show (!(classD s == []) && !(classD t == [])) = true from h3)] at hD
      refine Wg rfl (W_region ?_)
      repeat (first | refine WL1 rfl ?_ | refine WLe rfl rfl ?_ | refine W_region ?_ | refine WL2 inf rfl ?_ | refine WL_ld inf rfl rfl rfl rfl (Blk.cell (by assumption) rfl) ?_)
      refine WL_call rfl rfl rfl rfl rfl enters_sclass rfl (sclass_any P (classD s) (classD t) pv _ (hP.ext hE) (by unfold Len at hs ⊢; omega) hf) ?_
      rintro e w2 ⟨rfl, hE2⟩
      refine ⟨_, rfl, ?_⟩
      repeat (first | refine WL1 rfl ?_ | refine WLe rfl rfl ?_ | refine W_region ?_ | refine WL2 inf rfl ?_ | refine WL_ld inf rfl rfl rfl rfl (Blk.cell (by assumption) rfl) ?_)
      exact W_ret1 rfl rfl rfl ⟨ret_bool hD.symm, hE.then_ hE2⟩
    rw [if_neg (by rw [show (!(classD s == []) && !(classD t == [])) = false from h3]; simp)] at hD
    refine Wg rfl (W_region ?_)
    repeat (first | refine WL1 rfl ?_ | refine WLe rfl rfl ?_ | refine W_region ?_ | refine WL2 inf rfl ?_ | refine WL_ld inf rfl rfl rfl rfl (Blk.cell (by assumption) rfl) ?_)
    refine WL_callq rfl rfl rfl rfl rfl enters_selems rfl (fun _ => selems_any s t _ hs ht) ?_
    repeat (first | refine WL1 rfl ?_ | refine WLe rfl rfl ?_ | refine W_region ?_ | refine WL2 inf rfl ?_ | refine WL_ld inf rfl rfl rfl rfl (Blk.cell (by assumption) rfl) ?_)
    refine W_cond rfl rfl (fun h4 => ?_) (fun h4 => ?_)
    · have h4' : (refD ((elemD s).getD []) && refD ((elemD t).getD [])) = true := h4
      rw [if_pos h4'] at hD
      simp only [Bool.and_eq_true] at h4'
      have hl := elemD_len h4'.1
      have he1 := elemD_le s
      have he2 := elemD_le t
      refine Wg rfl (W_region ?_)
      repeat (first | refine WL1 rfl ?_ | refine WLe rfl rfl ?_ | refine W_region ?_ | refine WL2 inf rfl ?_ | refine WL_ld inf rfl rfl rfl rfl (Blk.cell (by assumption) rfl) ?_)
      refine Wr rfl ((elemD s).getD [], (elemD t).getD []) (by simp only; omega) ⟨hE, Nat.le_trans he1 hs, Nat.le_trans he2 ht, ?_⟩ rfl ⟨rfl, rfl, rfl, trivial⟩
      rw [hD, hl]
    · rw [if_neg (by rw [show (refD ((elemD s).getD []) && refD ((elemD t).getD [])) = false from h4]; simp)] at hD
      refine Wg rfl (W_region ?_)
      repeat (first | refine WL1 rfl ?_ | refine WLe rfl rfl ?_ | refine W_region ?_ | refine WL2 inf rfl ?_ | refine WL_ld inf rfl rfl rfl rfl (Blk.cell (by assumption) rfl) ?_)
      exact W_ret1 rfl rfl rfl ⟨ret_bool hD.symm, hE⟩
  · intro H
    refine Wg rfl (W_region ?_)
    repeat (first | refine WL1 rfl ?_ | refine WLe rfl rfl ?_ | refine W_region ?_ | refine WL2 inf rfl ?_ | refine WL_ld inf rfl rfl rfl rfl (Blk.cell (by assumption) rfl) ?_)
    refine WL_call rfl rfl rfl rfl rfl enters_sknown rfl (sknown_any P a pv _ hP ha) ?_
    rintro e w1 ⟨rfl, hE1⟩
    refine ⟨_, rfl, ?_⟩
    repeat (first | refine WL1 rfl ?_ | refine WLe rfl rfl ?_ | refine W_region ?_ | refine WL2 inf rfl ?_ | refine WL_ld inf rfl rfl rfl rfl (Blk.cell (by assumption) rfl) ?_)
    refine WL_callg rfl rfl rfl enters_sknown rfl (fun _ => sknown_any P b pv _ (hP.ext hE1) hb) ?_
    intro w2 hE2
    repeat (first | refine WL1 rfl ?_ | refine WLe rfl rfl ?_ | refine W_region ?_ | refine WL2 inf rfl ?_ | refine WL_ld inf rfl rfl rfl rfl (Blk.cell (by assumption) rfl) ?_)
    refine W_cond rfl rfl (fun h => ?_) (fun h => ?_)
    · rw [if_pos (show (!kn P a || !kn P b) = true from h)] at hT
      refine Wg rfl (W_region ?_)
      repeat (first | refine WL1 rfl ?_ | refine WLe rfl rfl ?_ | refine W_region ?_ | refine WL2 inf rfl ?_ | refine WL_ld inf rfl rfl rfl rfl (Blk.cell (by assumption) rfl) ?_)
      exact W_ret1 rfl rfl rfl ⟨ret_bool hT.symm, hE1.then_ hE2⟩
    · rw [if_neg (by rw [show (!kn P a || !kn P b) = false from h]; simp)] at hT
      refine W_skip (WN_seq (W_seq (W_label (WN_seq (W_sub _ rfl ?_ (H (a, b) w2 ⟨hE1.then_ hE2, ha, hb, hT⟩))))))
      exact ⟨rfl, rfl, rfl, trivial⟩
end Go.Proofs.YtljcmmmajjmpoaaGreatDoor
