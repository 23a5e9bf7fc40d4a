/- classfile: texts, pool.add. -/
import Derived.Test.YtljcmmmajjmpoaaGreatDoorInstr
import Derived.Test.YtljcmmmajjmpoaaGreatDoorDraw
namespace Go.Proofs.YtljcmmmajjmpoaaGreatDoor
open Go.RowKit Sp

theorem Upd.below {base g : Nat} {w w1 : World} (h : Upd g w w1) (hg : base ≤ g) : Below base w w1 := ⟨h.os, h.tape, h.output, Nat.le_of_eq h.size.symm, fun k hk => h.block k (by omega)⟩
theorem grown_below {base : Nat} {w w1 : World} {row : Option Nat} (h : w.grownBy w1 row) (hb : base ≤ w.heap.size) (hr : ∀ k, row = some k → base ≤ k) : Below base w w1 := ⟨h.os, h.tape, h.output, h.size, fun k hk => h.block k (by omega) fun e => by have := hr k e.symm; omega⟩
theorem Ext.below {base : Nat} {w w1 : World} (h : Ext w w1) (hb : base ≤ w.heap.size) : Below base w w1 := h.mono hb
theorem Below.ext_ {w w1 : World} {base : Nat} (h : Below base w w1) (hb : base = w.heap.size) : Ext w w1 := by subst hb; exact h
theorem Ext.drew_ (w : World) : Ext w w.drew := ⟨rfl, rfl, rfl, Nat.le_refl _, fun _ _ => rfl⟩

/-- The texts of an instruction. -/
def textsI (x : Ins) : List L := (if (shapeD x.op).cls then [x.cls] else []) ++ (if (shapeD x.op).name then [x.name] else []) ++ (if (shapeD x.op).desc then [x.desc] else [])
theorem textsI_len (x : Ins) (ho : Ins.ok x) : ∀ s ∈ textsI x, Len s := by
  obtain ⟨h1, h2, h3⟩ := ho
  unfold textsI
  intro s hs
  simp only [List.mem_append] at hs
  rcases hs with (hs | hs) | hs <;> split at hs <;> simp at hs <;> subst hs <;> assumption
theorem textsI_le (x : Ins) : (textsI x).length ≤ 3 := by
  unfold textsI
  split <;> split <;> split <;> simp
theorem enters_texts : Enters Tryz.prog 162 := enters_of Tryz.func162 (by kernel_rfl) rfl
theorem texts_any (x : Ins) (w : World) (ho : Ins.ok x) : Calls Tryz.prog 162 #[.agg (Ins.cs x).toArray] w fun e w' => ∃ v, e = .returned v ∧ Ext w w' ∧ OwnR w.heap.size 9 1 w' v ((textsI x).map strC) := by
  refine calls_W (args := [.agg (Ins.cs x).toArray]) Tryz.func162 rfl rfl rfl ?_
  refine Wg rfl (W_region ?_)
  refine WL_box (cs := Ins.cs x) rfl rfl rfl rfl rfl ?_
  rintro g w1 hg hB hE
  repeat (first | refine WL1 rfl ?_ | refine WLe rfl rfl ?_ | refine W_region ?_ | refine WL2 inf rfl ?_ | refine WL_ld inf rfl rfl rfl rfl (Blk.cell (by assumption) rfl) ?_)
  refine WL_call rfl rfl rfl rfl rfl enters_of_ rfl (of_any x.op _) ?_
  rintro e w2 ⟨rfl, hE2⟩
  refine ⟨_, rfl, ?_⟩
  replace hE := hE.then_ hE2
  have l1 := hB.lt
  replace hB := hB.ext hE2
  repeat (first | refine WL1 rfl ?_ | refine WLe rfl rfl ?_ | refine W_region ?_ | refine WL2 inf rfl ?_ | refine WL_ld inf rfl rfl rfl rfl (Blk.cell (by assumption) rfl) ?_)
  refine WL_alloc inf (cs := noRow.sh.cs) rfl rfl rfl rfl rfl ?_
  rintro g' w3 hg' hB' hE3
  have s2 := hE2.size
  refine WL_sta inf (cs' := (shapeD x.op).cs) rfl rfl rfl rfl (by simp [Sp.Sh.cs, Value.oneCell']) rfl hB' rfl ?_
  rintro w4 hB4 u4
  replace hB := u4.blk (hB.ext hE3) (by omega)
  replace hE := u4.ext (hE.then_ hE3) (by have := hE.size; omega)
  clear hE2 hE3 u4 hB' s2 l1
  have key : ∀ (t : L) (b : Bool) (v : Value) (ts : List L) (W : World), Ext w W → OwnR w.heap.size 9 1 W v (ts.map strC) → ts.length ≤ 2 → ∀ W1 W2 v', Ext W W1 → OwnR w.heap.size 9 1 W2 v' (ts.map strC ++ [strC t]) → W1.grownBy W2 v.ownBlock → Ext w W2 := fun t b v ts W h1 h2 h3 W1 W2 v' h4 h5 h6 => grown_ext h6 (h1.then_ h4) fun k hk => (h2.own k hk).1
  repeat (first | refine WL1 rfl ?_ | refine WLe rfl rfl ?_ | refine W_region ?_ | refine WL2 inf rfl ?_ | refine WL_ld inf rfl rfl rfl rfl (Blk.cell (by assumption) rfl) ?_)
  refine W_cut (fun x : Value => [(1, [], .pointer (some ⟨g, 0, none⟩)), (2, [], x), (3, [], .pointer (some ⟨g', 0, none⟩))]) (fun v W => Ext w W ∧ Blk W g 119 (Ins.cs x) ∧ Blk W g' 172 (shapeD x.op).cs ∧ OwnR w.heap.size 9 1 W v ((if (shapeD x.op).cls then [x.cls] else []).map strC)) ?_ ?_
  · refine W_cond rfl rfl (fun hb => ?_) (fun hb => ?_)
    · refine Wg rfl (W_region ?_)
      repeat (first | refine WL1 rfl ?_ | refine WLe rfl rfl ?_ | refine W_region ?_ | refine WL2 inf rfl ?_ | refine WL_ld inf rfl rfl rfl rfl (Blk.cell (by assumption) rfl) ?_)
      refine WL_bsl (cs := strC x.cls) rfl rfl rfl rfl rfl (bs40_1 _ _) ?_
      rintro h W1 rfl hh hE1
      refine WL_app ei (ncs := [strC x.cls]) rfl rfl rfl rfl rfl rfl (OwnR.nil w.heap.size _ _ _) hh.cells rfl (by simp [strC]) (by simp [strC, Value.oneCell']) (by simp) (Nat.le_trans hE.size hE1.size) ?_
      rintro v' W2 hown hgr hrow
      repeat (first | refine WL1 rfl ?_ | refine WLe rfl rfl ?_ | refine W_region ?_ | refine WL2 inf rfl ?_ | refine WL_ld inf rfl rfl rfl rfl (Blk.cell (by assumption) rfl) ?_)
      refine WLm rfl v' ⟨grown_ext hgr (hE.then_ hE1) (fun k hk => by cases hk), ?_, ?_, ?_⟩ rfl ⟨rfl, rfl, rfl, trivial⟩
      · exact (hgr.block _ (hB.ext hE1).lt (by simp [Value.ownBlock])).trans (hB.ext hE1)
      · exact (hgr.block _ (hB4.ext hE1).lt (by simp [Value.ownBlock])).trans (hB4.ext hE1)
      · rw [if_pos hb]; exact hown
    · refine Wm rfl (.slice none 0 0) ⟨hE, hB, hB4, ?_⟩ rfl ⟨rfl, rfl, rfl, trivial⟩
      rw [if_neg (by rw [hb]; simp)]; exact OwnR.nil _ _ _ _
  rintro v W ⟨hE, hB, hB4, hown⟩
  have hrow0 := hown.own
  refine Wg rfl (W_region ?_)
  repeat (first | refine WL1 rfl ?_ | refine WLe rfl rfl ?_ | refine W_region ?_ | refine WL2 inf rfl ?_ | refine WL_ld inf rfl rfl rfl rfl (Blk.cell (by assumption) rfl) ?_)
  refine W_cut (fun x : Value => [(1, [], .pointer (some ⟨g, 0, none⟩)), (2, [], x), (3, [], .pointer (some ⟨g', 0, none⟩))]) (fun v W => Ext w W ∧ Blk W g 119 (Ins.cs x) ∧ Blk W g' 172 (shapeD x.op).cs ∧ OwnR w.heap.size 9 1 W v (((if (shapeD x.op).cls then [x.cls] else []) ++ (if (shapeD x.op).name then [x.name] else [])).map strC)) ?_ ?_
  · refine W_cond rfl rfl (fun hb => ?_) (fun hb => ?_)
    · refine Wg rfl (W_region ?_)
      repeat (first | refine WL1 rfl ?_ | refine WLe rfl rfl ?_ | refine W_region ?_ | refine WL2 inf rfl ?_ | refine WL_ld inf rfl rfl rfl rfl (Blk.cell (by assumption) rfl) ?_)
      refine WL_bsl (cs := strC x.name) rfl rfl rfl rfl rfl (bs40_1 _ _) ?_
      rintro h W1 rfl hh hE1
      refine WL_app ei (ncs := [strC x.name]) rfl rfl rfl rfl rfl rfl (hown.ext hE1) hh.cells rfl (by simp [strC]) (by simp [strC, Value.oneCell']) (by split <;> simp) (Nat.le_trans hE.size hE1.size) ?_
      rintro v' W2 hown' hgr hrow
      have hne : ∀ (k : Nat) (t : TypeId) (cs : List Value), Blk W1 k t cs → decide (t = 9) = false → some k ≠ v.ownBlock := fun k t cs hk ht e => by
        obtain ⟨⟨_, h2⟩, _⟩ := hown.ext hE1
        rcases h2 with ⟨rfl, _⟩ | ⟨g2, cap, cur, rfl, _, h6, _⟩
        · cases e
        · cases e; unfold Blk at hk; rw [hk] at h6; cases h6; simp at ht
      repeat (first | refine WL1 rfl ?_ | refine WLe rfl rfl ?_ | refine W_region ?_ | refine WL2 inf rfl ?_ | refine WL_ld inf rfl rfl rfl rfl (Blk.cell (by assumption) rfl) ?_)
      refine WLm rfl v' ⟨grown_ext hgr (hE.then_ hE1) (fun k hk => (hrow0 k hk).1), ?_, ?_, ?_⟩ rfl ⟨rfl, rfl, rfl, trivial⟩
      · exact (hgr.block _ (hB.ext hE1).lt (hne _ _ _ (hB.ext hE1) rfl)).trans (hB.ext hE1)
      · exact (hgr.block _ (hB4.ext hE1).lt (hne _ _ _ (hB4.ext hE1) rfl)).trans (hB4.ext hE1)
      · rw [if_pos hb, List.map_append]; exact hown'
    · refine Wm rfl v ⟨hE, hB, hB4, ?_⟩ rfl ⟨rfl, rfl, rfl, trivial⟩
      rw [if_neg (c := (shapeD x.op).name = true) (by rw [hb]; simp), List.append_nil]; exact hown
  clear hrow0 hown hB hB4 hE
  rintro v W ⟨hE, hB, hB4, hown⟩
  have hrow0 := hown.own
  refine Wg rfl (W_region ?_)
  repeat (first | refine WL1 rfl ?_ | refine WLe rfl rfl ?_ | refine W_region ?_ | refine WL2 inf rfl ?_ | refine WL_ld inf rfl rfl rfl rfl (Blk.cell (by assumption) rfl) ?_)
  refine W_cut (fun x : Value => [(2, [], x)]) (fun v W => Ext w W ∧ OwnR w.heap.size 9 1 W v ((textsI x).map strC)) ?_ ?_
  · refine W_cond rfl rfl (fun hb => ?_) (fun hb => ?_)
    · refine Wg rfl (W_region ?_)
      repeat (first | refine WL1 rfl ?_ | refine WLe rfl rfl ?_ | refine W_region ?_ | refine WL2 inf rfl ?_ | refine WL_ld inf rfl rfl rfl rfl (Blk.cell (by assumption) rfl) ?_)
      refine WL_bsl (cs := strC x.desc) rfl rfl rfl rfl rfl (bs40_1 _ _) ?_
      rintro h W1 rfl hh hE1
      refine WL_app ei (ncs := [strC x.desc]) rfl rfl rfl rfl rfl rfl (hown.ext hE1) hh.cells rfl (by simp [strC]) (by simp [strC, Value.oneCell']) (by split <;> split <;> simp) (Nat.le_trans hE.size hE1.size) ?_
      rintro v' W2 hown' hgr hrow
      repeat (first | refine WL1 rfl ?_ | refine WLe rfl rfl ?_ | refine W_region ?_ | refine WL2 inf rfl ?_ | refine WL_ld inf rfl rfl rfl rfl (Blk.cell (by assumption) rfl) ?_)
      refine WLm rfl v' ⟨grown_ext hgr (hE.then_ hE1) (fun k hk => (hrow0 k hk).1), ?_⟩ rfl ⟨rfl, trivial⟩
      unfold textsI
      rw [if_pos (c := (shapeD x.op).desc = true) hb, List.map_append]; exact hown'
    · refine Wm rfl v ⟨hE, ?_⟩ rfl ⟨rfl, trivial⟩
      unfold textsI
      rw [if_neg (c := (shapeD x.op).desc = true) (by rw [hb]; simp), List.append_nil]; exact hown
  clear hrow0 hown hB hB4 hE
  rintro v W ⟨hE, hown⟩
  refine Wg rfl (W_region ?_)
  repeat (first | refine WL1 rfl ?_ | refine WLe rfl rfl ?_ | refine W_region ?_ | refine WL2 inf rfl ?_ | refine WL_ld inf rfl rfl rfl rfl (Blk.cell (by assumption) rfl) ?_)
  exact W_ret1 rfl rfl rfl ⟨v, rfl, hE, hown⟩
end Go.Proofs.YtljcmmmajjmpoaaGreatDoor
