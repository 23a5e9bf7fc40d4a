/- classfile: pool.add. -/
import Derived.Test.YtljcmmmajjmpoaaGreatDoorPool
namespace Go.Proofs.YtljcmmmajjmpoaaGreatDoor
open Go.RowKit Sp

theorem OwnR.ne {base e z : Nat} {w : World} {v : Value} {css : List (List Value)} (h : OwnR base e z w v css) {k : Nat} {t : TypeId} {cs : List Value} (hk : Blk w k t cs) (ht : decide (t = e) = false) : some k ≠ v.ownBlock := fun e1 => by
  obtain ⟨⟨_, h2⟩, _⟩ := h
  rcases h2 with ⟨rfl, _⟩ | ⟨g2, cap, cur, rfl, _, h6, _⟩
  · cases e1
  · cases e1; unfold Blk at hk; rw [hk] at h6; cases h6; simp at ht
theorem OwnR.neMap {base e z : Nat} {w : World} {v : Value} {css : List (List Value)} (h : OwnR base e z w v css) {k : Nat} {es : List (L × Int)} (hk : MapAt w k es) : some k ≠ v.ownBlock := fun e1 => by
  obtain ⟨⟨_, h2⟩, _⟩ := h
  obtain ⟨arr, clock, hk, _⟩ := hk
  rcases h2 with ⟨rfl, _⟩ | ⟨g2, cap, cur, rfl, _, h6, _⟩
  · cases e1
  · cases e1; rw [hk] at h6; cases h6
theorem MapAt.ne {w : World} {k q : Nat} {es : List (L × Int)} {t : TypeId} {cs : List Value} (hk : MapAt w k es) (hq : Blk w q t cs) : q ≠ k := fun e => by
  subst e
  obtain ⟨arr, clock, hk, _⟩ := hk
  unfold Blk at hq
  rw [hk] at hq; cases hq
theorem Blk.grown {w w1 : World} {g : Nat} {t : TypeId} {cs : List Value} {row : Option Nat} (h : Blk w g t cs) (hg : w.grownBy w1 row) (hne : some g ≠ row) : Blk w1 g t cs := (hg.block _ h.lt hne).trans h
theorem MapAt.grown {w w1 : World} {r : Nat} {es : List (L × Int)} {row : Option Nat} (h : MapAt w r es) (hg : w.grownBy w1 row) (hne : some r ≠ row) : MapAt w1 r es := h.kept (hg.block _ h.lt hne)
def addOne (ls : List L) (s : L) : List L := if ls.contains s then ls else ls ++ [s]
def addAll (ls : List L) (xs : List L) : List L := xs.foldl addOne ls
theorem addAll_len : ∀ (xs ls : List L), (addAll ls xs).length ≤ ls.length + xs.length
  | [], ls => by simp [addAll]
  | s :: r, ls => by
    have := addAll_len r (addOne ls s)
    have h1 : (addOne ls s).length ≤ ls.length + 1 := by unfold addOne; split <;> simp
    show (addAll (addOne ls s) r).length ≤ _
    simp; omega
theorem lkD_put : ∀ (es : List (L × Int)) (x s : L) (v : Int), (lkD (putD es x v) s).isSome = (decide (x = s) || (lkD es s).isSome)
  | [], x, s, v => by
    simp only [putD, lkD]
    by_cases h : x = s <;> simp [h]
  | (t, u) :: r, x, s, v => by
    unfold putD
    by_cases h : t = x
    · subst h
      rw [if_pos rfl]
      simp only [lkD]
      by_cases h2 : t = s <;> simp [h2]
    · rw [if_neg h]
      simp only [lkD]
      by_cases h2 : t = s
      · simp [h2]
      · rw [if_neg h2, if_neg h2]; exact lkD_put r x s v
def Keys (es : List (L × Int)) (ls : List L) : Prop := ∀ s, (lkD es s).isSome = ls.contains s
theorem enters_add : Enters Tryz.prog 161 := enters_of Tryz.func161 (by kernel_rfl) rfl
set_option maxRecDepth 100000 in
theorem add_any {base q r : Nat} {B : Nat → Prop} {w : World} {lv v : Value} {ls xs : List L} {es : List (L × Int)} (hq : Blk w q 132 [lv, .map (some r)]) (hl : OwnR base 9 1 w lv (ls.map strC)) (hm : MapAt w r es) (hinv : Keys es ls)
    (hbq : base ≤ q) (hbr : base ≤ r) (hsl : Sl StrR 1 B w v xs) (hB : ∀ k, B k → k < w.heap.size ∧ k ≠ q ∧ k ≠ r ∧ some k ≠ lv.ownBlock) (hlen : ls.length + xs.length ≤ 274877906944) :
    Calls Tryz.prog 161 #[.pointer (some ⟨q, 0, none⟩), v] w fun e w' => e = .returned (.tuple #[]) ∧ Below base w w' ∧ ∃ lv' es', Blk w' q 132 [lv', .map (some r)] ∧ OwnR base 9 1 w' lv' ((addAll ls xs).map strC) ∧
      MapAt w' r es' ∧ Keys es' (addAll ls xs) ∧ (lv'.ownBlock = lv.ownBlock ∨ ∀ g, lv'.ownBlock = some g → w.heap.size ≤ g) ∧ (∀ k, k < w.heap.size → k ≠ q → k ≠ r → some k ≠ lv.ownBlock → w'.heap[k]? = w.heap[k]?) := by
  obtain ⟨A, c, rfl, hlc, _, hrow⟩ := hsl
  refine calls_W (args := [.pointer (some ⟨q, 0, none⟩), .slice A xs.length c]) Tryz.func161 rfl rfl rfl ?_
  refine Wg rfl (W_region ?_)
  repeat (first | refine WL1 rfl ?_ | refine WLe rfl rfl ?_ | refine W_region ?_ | refine WL2 inf rfl ?_ | refine WL_ld inf rfl rfl rfl rfl (Blk.cell (by assumption) rfl) ?_)
  refine W_loop (fun k : Nat => [(0, [], .pointer (some ⟨q, 0, none⟩)), (8, [], .slice A xs.length c), (9, [], .int .i64 xs.length), (10, [], .int .i64 k)])
    (fun k W => k ≤ xs.length ∧ Below base w W ∧ (∀ k, k < w.heap.size → k ≠ q → k ≠ r → some k ≠ lv.ownBlock → W.heap[k]? = w.heap[k]?) ∧ ∃ lv' es', Blk W q 132 [lv', .map (some r)] ∧ OwnR base 9 1 W lv' ((addAll ls (xs.take k)).map strC) ∧ MapAt W r es' ∧ Keys es' (addAll ls (xs.take k)) ∧ (lv'.ownBlock = lv.ownBlock ∨ ∀ g, lv'.ownBlock = some g → w.heap.size ≤ g))
    (fun k => xs.length - k) 0 (fun _ => rfl) ⟨rfl, rfl, rfl, rfl, trivial⟩ ⟨Nat.zero_le _, Below.refl _ _, fun _ _ _ _ _ => rfl, lv, es, hq, hl, hm, hinv, .inl rfl⟩ ?_
  rintro k W ⟨hk, hbel, hkeep, lv', es', hq', hl', hm', hinv', hown'⟩
  refine Wg rfl (W_region ?_)
  repeat (first | refine WL1 rfl ?_ | refine WLe rfl rfl ?_ | refine W_region ?_ | refine WL2 inf rfl ?_ | refine WL_ld inf rfl rfl rfl rfl (Blk.cell (by assumption) rfl) ?_)
  refine W_cond rfl rfl (fun hb => ?_) (fun hb => ?_)
  · have hlt : k < xs.length := by simpa using hb
    have hx : xs[k]? = some xs[k] := List.getElem?_eq_getElem hlt
    have htk : xs.take (k + 1) = xs.take k ++ [xs[k]] := by rw [List.take_add_one, hx]; rfl
    generalize xs[k] = x at hx htk
    have hadd : addAll ls (xs.take (k + 1)) = addOne (addAll ls (xs.take k)) x := by rw [htk]; simp [addAll]
    have hlen' := addAll_len (xs.take k) ls
    rw [List.length_take, Nat.min_eq_left (Nat.le_of_lt hlt)] at hlen'
    obtain ⟨a, cs, rfl, hz, hR, hcs⟩ := hrow.at_ hx
    obtain ⟨rfl, hxl⟩ := hR
    have hcell : W.cell? (a.add (k * 1)) = some (.string (mkS x)) := by
      have h1 := hcs 0 _ rfl
      obtain ⟨b1, b2, b3, b4⟩ := hB _ h1.1
      exact (World.cell?_of_block (hkeep _ b1 b2 b3 b4)).trans h1.2
    obtain ⟨A', c', hv'⟩ := hl'.val
    subst hv'
    refine Wg rfl (W_region ?_)
    refine WL_ix inf rfl rfl rfl rfl rfl (fun _ => ⟨by omega, by omega⟩) ?_
    refine WL_ld inf rfl rfl rfl rfl hcell ?_
    repeat (first | refine WL1 rfl ?_ | refine WLe rfl rfl ?_ | refine W_region ?_ | refine WL2 inf rfl ?_ | refine WL_ld inf rfl rfl rfl rfl (Blk.cell (by assumption) rfl) ?_)
    refine WL_lk2 rfl rfl rfl mSI rfl hm' ?_
    repeat (first | refine WL1 rfl ?_ | refine WLe rfl rfl ?_ | refine W_region ?_ | refine WL2 inf rfl ?_ | refine WL_ld inf rfl rfl rfl rfl (Blk.cell (by assumption) rfl) ?_)
    refine W_cond rfl rfl (fun hc => ?_) (fun hc => ?_)
    · have hno : (addAll ls (xs.take k)).contains x = false := by rw [← hinv' x]; simpa using hc
      rw [addOne, if_neg (by rw [hno]; simp)] at hadd
      refine Wg rfl (W_draws (fun W' => W' = W.drew) [10] mixed_ ?_)
      refine WDp 0 rfl (by first | exact stepV_yl _ rfl | exact stepI_yl _ inf rfl) (by kernel_rfl) ?_
      refine WDp 1 rfl (by first | exact stepV_yl _ rfl | exact stepI_yl _ inf rfl) (by kernel_rfl) ?_
      refine WDp 2 rfl (by first | exact stepV_yl _ rfl | exact stepI_yl _ inf rfl) (by kernel_rfl) ?_
      refine WDq 3 rfl (yl_ld inf rfl rfl rfl rfl (fun W' hS => by subst hS; exact hq'.cell rfl)) rfl (by kernel_rfl) ?_
      refine WDp 4 rfl (by first | exact stepV_yl _ rfl | exact stepI_yl _ inf rfl) (by kernel_rfl) ?_
      refine WDp 5 rfl (by first | exact stepV_yl _ rfl | exact stepI_yl _ inf rfl) (by kernel_rfl) ?_
      refine WDp 6 rfl (by first | exact stepV_yl _ rfl | exact stepI_yl _ inf rfl) (by kernel_rfl) ?_
      refine WDp 7 rfl (by first | exact stepV_yl _ rfl | exact stepI_yl _ inf rfl) (by kernel_rfl) ?_
      refine WDq 8 rfl (yl_ld inf rfl rfl rfl rfl (fun W' hS => by subst hS; exact hq'.cell rfl)) rfl (by kernel_rfl) ?_
      refine WDp 9 rfl (by first | exact stepV_yl _ rfl | exact stepI_yl _ inf rfl) (by kernel_rfl) ?_
      refine WDl 10 rfl (by kernel_rfl) (WL_mu (es := es') rfl rfl rfl rfl rfl mSI hm' ?_)
      rintro W1 hm1 u1
      refine WDd (by simp) (WDe (by kernel_rfl) ?_)
      have hne : q ≠ r := hm'.ne hq'
      have hrn := hl'.neMap hm'
      have hq1 : Blk W1 q 132 _ := u1.blk (w := W.drew) hq' hne
      have hl1 := hl'.kept (w1 := W1) fun g hg _ => u1.block g fun e => hrn (by rw [hg, e])
      have e1 : W1.heap.size = W.heap.size := u1.size
      repeat (first | refine WL1 rfl ?_ | refine WLe rfl rfl ?_ | refine W_region ?_ | refine WL2 inf rfl ?_ | refine WL_ld inf rfl rfl rfl rfl (Blk.cell (by assumption) rfl) ?_)
      refine WL_bsl (cs := strC x) rfl rfl rfl rfl rfl (bs40_1 _ _) ?_
      rintro h W2 rfl hh hE2
      have hb2 : base ≤ W2.heap.size := by have := hq'.lt; have := hE2.size; omega
      refine WL_app ei (ncs := [strC x]) rfl rfl rfl rfl rfl rfl (hl1.ext hE2) hh.cells rfl (by simp [strC]) (by simp [strC, Value.oneCell']) (by rw [List.length_map]; omega) hb2 ?_
      rintro lv3 W3 hl3 hg3 hrow3
      have hqn : some q ≠ Value.ownBlock (.slice A' ((addAll ls (xs.take k)).map strC).length c') := hl'.ne hq' rfl
      have hq3 := ((hq1.ext hE2).grown hg3 hqn)
      have hm3 := ((hm1.ext hE2).grown hg3 hrn)
      repeat (first | refine WL1 rfl ?_ | refine WLe rfl rfl ?_ | refine W_region ?_ | refine WL2 inf rfl ?_ | refine WL_ld inf rfl rfl rfl rfl (Blk.cell (by assumption) rfl) ?_)
      refine WL_st inf rfl rfl rfl rfl (by obtain ⟨A3, c3, rfl⟩ := hl3.val; rfl) rfl hq3 rfl ?_
      rintro W4 hq4 u4
      have hl4 := hl3.upd u4 (fun e => hl3.ne hq3 rfl e.symm)
      have hm4 := hm3.upd u4 hne.symm
      have hown2 : ∀ g, Value.ownBlock (.slice A' ((addAll ls (xs.take k)).map strC).length c') = some g → base ≤ g := fun g hg => (hl'.own g hg).1
      have hbel4 : Below base w W4 := hbel.trans (((Ext.drew_ W).below (by have := hq'.lt; omega)).trans ((u1.below hbr).trans ((hE2.below (by have := hq'.lt; omega)).trans ((grown_below hg3 hb2 hown2).trans (u4.below hbq)))))
      repeat (first | refine WL1 rfl ?_ | refine WLe rfl rfl ?_ | refine W_region ?_ | refine WL2 inf rfl ?_ | refine WL_ld inf rfl rfl rfl rfl (Blk.cell (by assumption) rfl) ?_)
      refine WL_add rfl rfl rfl rfl rfl rfl rfl (fun _ => by omega) ?_
      repeat (first | refine WL1 rfl ?_ | refine WLe rfl rfl ?_ | refine W_region ?_ | refine WL2 inf rfl ?_ | refine WL_ld inf rfl rfl rfl rfl (Blk.cell (by assumption) rfl) ?_)
      refine WLr rfl (k + 1) (by omega) ⟨hlt, hbel4, ?_, lv3, _, hq4, by rw [hadd, List.map_append]; exact hl4, hm4, ?_, ?_⟩ rfl ⟨rfl, rfl, rfl, rfl, trivial⟩
      · intro k' b1 b2 b3 b4
        have hlt2 : k' < W2.heap.size := by have := hbel.size; have := hE2.size; omega
        refine (u4.block k' b2).trans ((hg3.block k' hlt2 fun e => ?_).trans ((hE2.block k' (by have := hbel.size; omega)).trans ((u1.block k' b3).trans (hkeep k' b1 b2 b3 b4))))
        rcases hown' with ho | ho
        · rw [ho] at e; exact b4 e
        · have := ho _ e.symm; omega
      · intro s
        rw [lkD_put, hinv' s, hadd, Bool.eq_iff_iff]
        simp only [List.contains_iff_mem, Bool.or_eq_true, decide_eq_true_eq, List.mem_append, List.mem_singleton]
        constructor
        · rintro (h | h)
          · exact .inr h.symm
          · exact .inl h
        · rintro (h | h)
          · exact .inr h
          · exact .inl h.symm
      · rcases hrow3 with h3 | h3
        · rw [h3]
          rcases hown' with ho | ho
          · exact .inl ho
          · exact .inr ho
        · refine .inr fun g hg => ?_
          rw [h3] at hg
          cases hg
          have := hbel.size
          have := hE2.size
          omega
    · have hyes : (addAll ls (xs.take k)).contains x = true := by rw [← hinv' x]; simpa using hc
      rw [addOne, if_pos hyes] at hadd
      refine Wg rfl (W_region ?_)
      refine WL_add rfl rfl rfl rfl rfl rfl rfl (fun _ => by omega) ?_
      repeat (first | refine WL1 rfl ?_ | refine WLe rfl rfl ?_ | refine W_region ?_ | refine WL2 inf rfl ?_ | refine WL_ld inf rfl rfl rfl rfl (Blk.cell (by assumption) rfl) ?_)
      refine WLr rfl (k + 1) (by omega) ⟨hlt, hbel, hkeep, _, es', hq', by rw [hadd]; exact hl', hm', by rw [hadd]; exact hinv', hown'⟩ rfl ⟨rfl, rfl, rfl, rfl, trivial⟩
  · have hk' : k = xs.length := by simp at hb; omega
    subst hk'
    rw [List.take_length] at hl' hinv'
    exact W_exitEnd rfl rfl rfl ⟨rfl, hbel, lv', es', hq', hl', hm', hinv', hown', hkeep⟩
end Go.Proofs.YtljcmmmajjmpoaaGreatDoor
