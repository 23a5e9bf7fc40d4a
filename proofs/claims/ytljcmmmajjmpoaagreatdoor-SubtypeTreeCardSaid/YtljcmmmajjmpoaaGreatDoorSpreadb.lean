/- link: spread, walked. -/
import Derived.Test.YtljcmmmajjmpoaaGreatDoorSpread
namespace Go.Proofs.YtljcmmmajjmpoaaGreatDoor
open Go.RowKit Sp

theorem enters_spread : Enters Tryz.prog 70 := enters_of Tryz.func70 (by kernel_rfl) rfl
set_option maxRecDepth 100000 in
set_option maxHeartbeats 4000000 in
theorem spread_any (P : Option (List Cls)) (pv : Value) (w0 : World) (hP : PrgV w0 pv P) (hs : sizeP P ≤ 1000) : ∀ (n : Nat) (name : L) (S : List L) (r : Nat) (w : World), Ext w0 w → w0.heap.size ≤ r → MapAt w r (ones S) → Len name → cnt P S < n →
    Calls Tryz.prog 70 #[pv, .string (mkS name), .map (some r)] w fun e w' => e = .returned (.tuple #[]) ∧ w.grownBy w' (some r) ∧ MapAt w' r (ones (spreadF P n name S))
  | 0, _, _, _, _, _, _, _, _, h => absurd h (Nat.not_lt_zero _)
  | n + 1, name, S, r, w, hE, hr, hm, hl, hc => by
    have rec_ := spread_any P pv w0 hP hs n
    refine calls_W (args := [pv, .string (mkS name), .map (some r)]) Tryz.func70 rfl rfl rfl ?_
    refine Wg rfl (W_region ?_)
    repeat (first | refine WL1 rfl ?_ | refine WLe rfl rfl ?_ | refine W_region ?_ | refine WL2 inf rfl ?_ | refine WL_ld inf rfl rfl rfl rfl (Blk.cell (by assumption) rfl) ?_)
    refine WL_call rfl rfl rfl rfl rfl enters_chain rfl (chain_any P name pv _ (hP.ext hE) hl hs) ?_
    rintro e w1 ⟨cv, rfl, hE1, hown, hcl⟩
    refine ⟨_, rfl, ?_⟩
    obtain ⟨A, c, rfl⟩ := hown.val
    rw [List.length_map] at *
    have hclen : (chainD P name).length ≤ 9223372036854775807 := by
      obtain ⟨⟨_, h2⟩, _⟩ := id hown
      rcases h2 with ⟨_, h0⟩ | ⟨g2, cap, cur, _, _, _, h7, h8, _⟩
      · simp at h0; simp [h0]
      · simp only [maxLen, List.length_map] at h7 h8; omega
    repeat (first | refine WL1 rfl ?_ | refine WLe rfl rfl ?_ | refine W_region ?_ | refine WL2 inf rfl ?_ | refine WL_ld inf rfl rfl rfl rfl (Blk.cell (by assumption) rfl) ?_)
    refine W_loop (fun k : Nat => [(0, [], pv), (2, [], .map (some r)), (14, [], .slice A (chainD P name).length c), (15, [], .int .i64 (chainD P name).length), (16, [], .int .i64 k)])
      (fun k W => k ≤ (chainD P name).length ∧ w.grownBy W (some r) ∧ OwnR w.heap.size 9 1 W (.slice A (chainD P name).length c) ((chainD P name).map strC) ∧ ∃ T, T = ((chainD P name).take k).foldl (fun S s => (implP P s).foldl (fun S i => if S.contains i then S else spreadF P n i (S ++ [i])) S) S ∧ MapAt W r (ones T) ∧ cnt P T ≤ n)
      (fun k => (chainD P name).length - k) 0 (fun _ => rfl) ⟨rfl, rfl, rfl, rfl, rfl, trivial⟩ ⟨Nat.zero_le _, hE1.gr _, hown, S, rfl, hm.ext hE1, by omega⟩ ?_
    clear hown hm hE1 hc
    rintro k W ⟨hk, hgr, hown, T, hT, hm, hcT⟩
    refine Wg rfl (W_region ?_)
    repeat (first | refine WL1 rfl ?_ | refine WLe rfl rfl ?_ | refine W_region ?_ | refine WL2 inf rfl ?_ | refine WL_ld inf rfl rfl rfl rfl (Blk.cell (by assumption) rfl) ?_)
    refine W_cond rfl rfl (fun hb => ?_) (fun hb => ?_)
    · have hlt : k < (chainD P name).length := by simpa using hb
      have hx : (chainD P name)[k]? = some (chainD P name)[k] := List.getElem?_eq_getElem hlt
      generalize (chainD P name)[k] = s at hx
      have hfold := fold_take (fun S s => (implP P s).foldl (fun S i => if S.contains i then S else spreadF P n i (S ++ [i])) S) S hx
      rw [← hT] at hfold
      have hsl := hcl s (List.mem_of_getElem? hx)
      obtain ⟨g, c', hv, hge, hgl, hcells⟩ := hown.cells (i := k) (cs := strC s) (by rw [List.getElem?_map, hx]; rfl)
      have hA : A = some ⟨g, 0, none⟩ := congrArg (fun v => match v with | Value.slice A _ _ => A | _ => none) hv
      subst hA
      have hEW : Ext w0 W := grown_ext hgr hE fun b hb => by cases hb; exact hr
      refine Wg rfl (W_region ?_)
      refine WL_ix inf rfl rfl rfl rfl rfl (fun _ => ⟨by omega, by omega⟩) ?_
      refine WL_ld inf rfl rfl rfl rfl (hcells.at_ (j := 0) rfl) ?_
      repeat (first | refine WL1 rfl ?_ | refine WLe rfl rfl ?_ | refine W_region ?_ | refine WL2 inf rfl ?_ | refine WL_ld inf rfl rfl rfl rfl (Blk.cell (by assumption) rfl) ?_)
      refine WL_call rfl rfl rfl rfl rfl enters_find rfl (find_any P s pv _ (hP.ext hEW)) ?_
      rintro e w2 ⟨cl, rfl, hE2, hR⟩
      refine ⟨_, rfl, ?_⟩
      have hz := hR.len
      repeat (first | refine WL1 rfl ?_ | refine WLe rfl rfl ?_ | refine W_region ?_ | refine WL2 inf rfl ?_ | refine WL_ld inf rfl rfl rfl rfl (Blk.cell (by assumption) rfl) ?_)
      refine WL_alloc inf rfl rfl rfl rfl rfl ?_
      rintro g8 w3 hg8 hB3 hE3
      refine WL_sta inf (cs' := cl) rfl rfl rfl (by rw [hz]; rfl) (ClsR.one _ _ _ _ hR) rfl hB3 (by rw [hz]; rfl) ?_
      rintro w4 hB4 u4
      have hE4 : Ext W w4 := u4.ext (hE2.then_ hE3) (by have := hE2.size; omega)
      have hE24 : Ext w2 w4 := u4.ext hE3 (by omega)
      have hR4 := ClsR.mono _ _ _ _ _ _ hR hE4.keeps fun _ h => h
      obtain ⟨iv, fv, mv, rfl, -, -, hsi, -, -⟩ := hR4
      have hii : ((findP P s).getD zeroC).impl = implP P s := rfl
      rw [hii] at hsi
      have hsil := hsi.len
      have hil : ∀ i ∈ implP P s, Len i := fun i hi => by
        obtain ⟨A, c, rfl, _, _, hrow⟩ := hsi
        obtain ⟨j, hj, rfl⟩ := List.getElem_of_mem hi
        obtain ⟨a, cs, _, _, hR, _⟩ := hrow.at_ (List.getElem?_eq_getElem hj)
        exact hR.2
      obtain ⟨Ai, ci, rfl, hi1, hi2, hri⟩ := hsi
      repeat (first | refine WL1 rfl ?_ | refine WLe rfl rfl ?_ | refine W_region ?_ | refine WL2 inf rfl ?_ | refine WL_ld inf rfl rfl rfl rfl (Blk.cell (by assumption) rfl) ?_)
      refine W_loop (fun j : Nat => [(0, [], pv), (2, [], .map (some r)), (14, [], .slice (some ⟨g, 0, none⟩) (chainD P name).length c), (15, [], .int .i64 (chainD P name).length), (16, [], .int .i64 k), (27, [], .slice Ai (implP P s).length ci), (28, [], .int .i64 (implP P s).length), (29, [], .int .i64 j)])
        (fun j W => j ≤ (implP P s).length ∧ w.grownBy W (some r) ∧ OwnR w.heap.size 9 1 W (.slice (some ⟨g, 0, none⟩) (chainD P name).length c) ((chainD P name).map strC) ∧ Row StrR 1 Any_ W Ai (implP P s) ∧ ∃ T', T' = ((implP P s).take j).foldl (fun S i => if S.contains i then S else spreadF P n i (S ++ [i])) T ∧ MapAt W r (ones T') ∧ cnt P T' ≤ n)
        (fun j => (implP P s).length - j) 0 (fun _ => rfl) ⟨rfl, rfl, rfl, rfl, rfl, rfl, rfl, rfl, trivial⟩ ⟨Nat.zero_le _, hgr.trans (hE4.gr _), hown.ext hE4, hri, T, rfl, hm.ext hE4, hcT⟩ ?_
      clear hgr hown hri hm hB3 hB4 hcells hEW hcT hb
      rintro j W ⟨hj, hgr, hown, hri, T', hT', hm, hcT⟩
      refine Wg rfl (W_region ?_)
      repeat (first | refine WL1 rfl ?_ | refine WLe rfl rfl ?_ | refine W_region ?_ | refine WL2 inf rfl ?_ | refine WL_ld inf rfl rfl rfl rfl (Blk.cell (by assumption) rfl) ?_)
      refine W_cond rfl rfl (fun hb => ?_) (fun hb => ?_)
      · have hlt2 : j < (implP P s).length := by simpa using hb
        have hx2 : (implP P s)[j]? = some (implP P s)[j] := List.getElem?_eq_getElem hlt2
        generalize (implP P s)[j] = i at hx2
        have hfold2 := fold_take (fun S i => if S.contains i then S else spreadF P n i (S ++ [i])) T hx2
        rw [← hT'] at hfold2
        have hmem := List.mem_of_getElem? hx2
        have hli := hil i hmem
        obtain ⟨a, cs, rfl, hz2, ⟨rfl, _⟩, hcs⟩ := hri.at_ hx2
        refine Wg rfl (W_region ?_)
        refine WL_ix inf rfl rfl rfl rfl rfl (fun _ => ⟨by omega, by omega⟩) ?_
        refine WL_ld inf rfl rfl rfl rfl (hcs.cells.at_ (j := 0) rfl) ?_
        repeat (first | refine WL1 rfl ?_ | refine WLe rfl rfl ?_ | refine W_region ?_ | refine WL2 inf rfl ?_ | refine WL_ld inf rfl rfl rfl rfl (Blk.cell (by assumption) rfl) ?_)
        refine WL_lk1 rfl rfl rfl mSI rfl hm ?_
        repeat (first | refine WL1 rfl ?_ | refine WLe rfl rfl ?_ | refine W_region ?_ | refine WL2 inf rfl ?_ | refine WL_ld inf rfl rfl rfl rfl (Blk.cell (by assumption) rfl) ?_)
        have hlk := lk_ones T' i
        refine W_cond rfl rfl (fun hc => ?_) (fun hc => ?_)
        · have hno : T'.contains i = false := by
            cases h : T'.contains i with
            | false => rfl
            | true => rw [hlk, h] at hc; cases hc
          rw [hno] at hlk
          have hg0 : (lkD (ones T') i).getD 0 + 1 = 1 := by rw [hlk]; rfl
          rw [hno] at hfold2
          have hEW : Ext w0 W := grown_ext hgr hE fun b hb => by cases hb; exact hr
          refine Wg rfl (W_region ?_)
          repeat (first | refine WL1 rfl ?_ | refine WLe rfl rfl ?_ | refine W_region ?_ | refine WL2 inf rfl ?_ | refine WL_ld inf rfl rfl rfl rfl (Blk.cell (by assumption) rfl) ?_)
          refine WL_lk1 rfl rfl rfl mSI rfl hm ?_
          refine WL_add rfl rfl rfl rfl rfl rfl rfl (fun _ => by rw [hg0]; omega) ?_
          refine WL_mu rfl rfl rfl rfl rfl mSI hm ?_
          rintro w5 hm5 u5
          rw [hg0, put_ones T' i hno] at hm5
          have hcn : cnt P (T' ++ [i]) < n := by
            have := filter_lt hno (allI P) (implP_all hmem)
            unfold cnt at *
            omega
          have hE5 : Ext w0 w5 := u5.ext hEW hr
          repeat (first | refine WL1 rfl ?_ | refine WLe rfl rfl ?_ | refine W_region ?_ | refine WL2 inf rfl ?_ | refine WL_ld inf rfl rfl rfl rfl (Blk.cell (by assumption) rfl) ?_)
          refine WL_call rfl rfl rfl rfl rfl enters_spread rfl (rec_ i (T' ++ [i]) r _ hE5 hr hm5 hli hcn) ?_
          rintro e w6 ⟨rfl, hg6, hm6⟩
          refine ⟨_, rfl, ?_⟩
          have hg56 : W.grownBy w6 (some r) := (u5.gr).trans hg6
          repeat (first | refine WL1 rfl ?_ | refine WLe rfl rfl ?_ | refine W_region ?_ | refine WL2 inf rfl ?_ | refine WL_ld inf rfl rfl rfl rfl (Blk.cell (by assumption) rfl) ?_)
          refine WL_add rfl rfl rfl rfl rfl rfl rfl (fun _ => by omega) ?_
          repeat (first | refine WL1 rfl ?_ | refine WLe rfl rfl ?_ | refine W_region ?_ | refine WL2 inf rfl ?_ | refine WL_ld inf rfl rfl rfl rfl (Blk.cell (by assumption) rfl) ?_)
          refine WLr rfl (j + 1) (by omega) ⟨hlt2, hgr.trans hg56, hown.kept fun b hb hlb => hg56.block b hlb fun e => hown.neMap hm (by rw [← e, hb]), hri.mono StrR.mono (keepsMap hm hg56) fun _ h => h, _, rfl, by rw [hfold2]; exact hm6, ?_⟩ rfl ⟨rfl, rfl, rfl, rfl, rfl, rfl, rfl, rfl, trivial⟩
          rw [hfold2]
          have h1 := cnt_le (P := P) (spreadF_sub P n i (T' ++ [i]))
          show cnt P (spreadF P n i (T' ++ [i])) ≤ n
          omega
        · have hyes : T'.contains i = true := by
            cases h : T'.contains i with
            | true => rfl
            | false => rw [hlk, h] at hc; cases hc
          rw [hyes] at hfold2
          refine Wg rfl (W_region ?_)
          refine WL_add rfl rfl rfl rfl rfl rfl rfl (fun _ => by omega) ?_
          repeat (first | refine WL1 rfl ?_ | refine WLe rfl rfl ?_ | refine W_region ?_ | refine WL2 inf rfl ?_ | refine WL_ld inf rfl rfl rfl rfl (Blk.cell (by assumption) rfl) ?_)
          exact WLr rfl (j + 1) (by omega) ⟨hlt2, hgr, hown, hri, _, rfl, by rw [hfold2]; exact hm, by rw [hfold2]; exact hcT⟩ rfl ⟨rfl, rfl, rfl, rfl, rfl, rfl, rfl, rfl, trivial⟩
      have hj' : j = (implP P s).length := by simp at hb; omega
      subst hj'
      rw [List.take_length] at hT'
      refine Wg rfl (W_region ?_)
      refine WL_add rfl rfl rfl rfl rfl rfl rfl (fun _ => by omega) ?_
      repeat (first | refine WL1 rfl ?_ | refine WLe rfl rfl ?_ | refine W_region ?_ | refine WL2 inf rfl ?_ | refine WL_ld inf rfl rfl rfl rfl (Blk.cell (by assumption) rfl) ?_)
      exact WLr rfl (k + 1) (by omega) ⟨hlt, hgr, hown, _, rfl, by rw [hfold, ← hT']; exact hm, by rw [hfold, ← hT']; exact hcT⟩ rfl ⟨rfl, rfl, rfl, rfl, rfl, trivial⟩
    · have hk' : k = (chainD P name).length := by simp at hb; omega
      subst hk'
      rw [List.take_length] at hT
      refine W_exitEnd rfl rfl rfl ⟨rfl, hgr, ?_⟩
      unfold spreadF
      rw [← hT]
      exact hm
end Go.Proofs.YtljcmmmajjmpoaaGreatDoor
