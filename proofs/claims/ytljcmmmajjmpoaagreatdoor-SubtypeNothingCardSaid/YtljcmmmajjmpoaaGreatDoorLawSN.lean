/- lanternlaw7.SubtypeNothing, walked. -/
import Derived.Test.YtljcmmmajjmpoaaGreatDoorSubd
namespace Go.Proofs.YtljcmmmajjmpoaaGreatDoor
open Go.RowKit Sp

theorem subc_none (a b : L) : subcD none a b = false := by
  have h : ifaceKeys none a = [] := rfl
  have h2 : ifacesD none a = [] := by
    unfold ifacesD
    rw [h]
    simp [sortL]
  unfold subcD
  rw [h2]
  rfl
theorem type_none (a b : L) : typeD none a b = false := rfl
theorem kn_none (a : L) : kn none a = false := rfl
theorem common_none (a b : L) : commonD none a b = [] := rfl
theorem merge_none (a b : L) : mergeD none a b = [] := rfl
theorem fit_noneS : FitP none := ⟨by show (0 : Nat) ≤ 1000; omega, by show (0 : Nat) ≤ 100000; omega⟩
theorem meet_none : MeetP none := fun a b h => by cases h
theorem enters_law : Enters Tryz.prog 7 := enters_of Tryz.func7 (by kernel_rfl) rfl
theorem two_sl {a b : L} {w : World} {h : Nat} (hh : Blk w h 9 ([a, b].map fun s => Value.string (mkS s))) (ha : Len a) (hb : Len b) : Sl StrR 1 Any_ w (.slice (some ⟨h, 0, none⟩) 2 2) [a, b] := by
  refine ⟨_, _, rfl, Nat.le_refl _, by simp [maxLen], fun i x hx => ?_⟩
  have hi : i < 2 := (List.getElem?_eq_some_iff.1 hx).1
  have hl : Len x := by
    have := List.mem_of_getElem? hx
    simp at this
    rcases this with rfl | rfl <;> assumption
  refine ⟨[.string (mkS x)], rfl, ⟨rfl, hl⟩, fun j v hj => ⟨trivial, ?_⟩⟩
  have hj0 : j = 0 := by
    have := (List.getElem?_eq_some_iff.1 hj).1
    simp at this; exact this
  subst hj0
  have := hh.cells i v (by rw [List.getElem?_map, hx]; simpa using hj)
  simpa [add_add] using this
set_option maxRecDepth 100000 in
set_option maxHeartbeats 4000000 in
theorem law_any (a b : L) (w : World) (ha : Len a) (hb : Len b) :
    Calls Tryz.prog 7 #[.string (mkS a), .string (mkS b)] w fun e w' => e = .returned (.bool true) ∧ Ext w w' := by
  refine calls_W (args := [.string (mkS a), .string (mkS b)]) Tryz.func7 rfl rfl rfl ?_
  refine Wg rfl (W_region ?_)
  repeat (first | refine WL1 rfl ?_ | refine WLe rfl rfl ?_ | refine W_region ?_ | refine WL2 inf rfl ?_ | refine WL_ld inf rfl rfl rfl rfl (Blk.cell (by assumption) rfl) ?_)
  refine WL_bsl (cs := [a, b].map fun s => .string (mkS s)) rfl rfl rfl rfl rfl (bs2_ _ _ _) ?_
  rintro h w1 rfl hh hE1
  refine WL_call rfl rfl rfl rfl rfl enters_small rfl (small_any [a, b] _ _ (two_sl hh ha hb)) ?_
  rintro e w2 ⟨rfl, hE2⟩
  refine ⟨_, rfl, ?_⟩
  have hE := hE1.then_ hE2
  repeat (first | refine WL1 rfl ?_ | refine WLe rfl rfl ?_ | refine W_region ?_ | refine WL2 inf rfl ?_ | refine WL_ld inf rfl rfl rfl rfl (Blk.cell (by assumption) rfl) ?_)
  refine W_cond rfl rfl (fun _ => ?_) (fun _ => ?_)
  · refine Wg rfl (W_region ?_)
    refine WL_call rfl rfl rfl rfl rfl enters_awake7 rfl (awake7_any _) ?_
    rintro e w4 ⟨rfl, hE4⟩
    refine ⟨_, rfl, ?_⟩
    repeat (first | refine WL1 rfl ?_ | refine WLe rfl rfl ?_ | refine W_region ?_ | refine WL2 inf rfl ?_ | refine WL_ld inf rfl rfl rfl rfl (Blk.cell (by assumption) rfl) ?_)
    exact W_ret1 rfl rfl rfl ⟨rfl, hE.then_ hE4⟩
  refine Wg rfl (W_region ?_)
  repeat (first | refine WL1 rfl ?_ | refine WLe rfl rfl ?_ | refine W_region ?_ | refine WL2 inf rfl ?_ | refine WL_ld inf rfl rfl rfl rfl (Blk.cell (by assumption) rfl) ?_)
  refine WL_call rfl rfl rfl rfl rfl enters_sclass rfl (sclass_any none a b (.pointer none) _ rfl ha fit_noneS) ?_
  rintro e w4 ⟨rfl, hE4⟩
  refine ⟨_, rfl, ?_⟩
  rw [subc_none]
  repeat (first | refine WL1 rfl ?_ | refine WLe rfl rfl ?_ | refine W_region ?_ | refine WL2 inf rfl ?_ | refine WL_ld inf rfl rfl rfl rfl (Blk.cell (by assumption) rfl) ?_)
  refine WL_callgE (R := fun v W => v = .bool false ∧ Ext w4 W) rfl rfl rfl enters_stype rfl (fun _ => (stype_any none a b (.pointer none) _ rfl ha hb fit_noneS).mono fun e W ⟨h1, h2⟩ => ⟨_, h1, by rw [type_none], h2⟩) ?_
  intro v w5 h1 _
  obtain ⟨rfl, hE5⟩ := h1 rfl
  repeat (first | refine WL1 rfl ?_ | refine WLe rfl rfl ?_ | refine W_region ?_ | refine WL2 inf rfl ?_ | refine WL_ld inf rfl rfl rfl rfl (Blk.cell (by assumption) rfl) ?_)
  refine WL_callgE (R := fun v W => v = .bool false ∧ Ext w5 W) rfl rfl rfl enters_sknown rfl (fun _ => (sknown_any none a (.pointer none) _ rfl ha).mono fun e W ⟨h1, h2⟩ => ⟨_, h1, by rw [kn_none], h2⟩) ?_
  intro v w6 h1 _
  obtain ⟨rfl, hE6⟩ := h1 rfl
  repeat (first | refine WL1 rfl ?_ | refine WLe rfl rfl ?_ | refine W_region ?_ | refine WL2 inf rfl ?_ | refine WL_ld inf rfl rfl rfl rfl (Blk.cell (by assumption) rfl) ?_)
  refine WL_callgE (R := fun v W => v = .string (mkS []) ∧ Ext w6 W) rfl rfl rfl enters_scommon rfl (fun _ => (scommon_any none a b (.pointer none) _ rfl ha hb fit_noneS meet_none).mono fun e W ⟨h1, h2, _⟩ => ⟨_, h1, by rw [common_none], h2⟩) ?_
  intro v w7 h1 _
  obtain ⟨rfl, hE7⟩ := h1 rfl
  repeat (first | refine WL1 rfl ?_ | refine WLe rfl rfl ?_ | refine W_region ?_ | refine WL2 inf rfl ?_ | refine WL_ld inf rfl rfl rfl rfl (Blk.cell (by assumption) rfl) ?_)
  refine WL_callgE (R := fun v W => v = .string (mkS []) ∧ Ext w7 W) rfl rfl rfl enters_smerge rfl (fun _ => (smerge_any none a b (.pointer none) _ rfl ha hb fit_noneS meet_none).mono fun e W ⟨h1, h2⟩ => ⟨_, h1, by rw [merge_none], h2⟩) ?_
  intro v w8 h1 _
  obtain ⟨rfl, hE8⟩ := h1 rfl
  repeat (first | refine WL1 rfl ?_ | refine WLe rfl rfl ?_ | refine W_region ?_ | refine WL2 inf rfl ?_ | refine WL_ld inf rfl rfl rfl rfl (Blk.cell (by assumption) rfl) ?_)
  refine WL_callgE (R := fun v W => v = .bool true ∧ Ext w8 W) rfl rfl rfl enters_awake7 rfl (fun _ => (awake7_any _).mono fun e W ⟨h1, h2⟩ => ⟨_, h1, rfl, h2⟩) ?_
  intro v w9 h1 _
  obtain ⟨rfl, hE9⟩ := h1 rfl
  repeat (first | refine WL1 rfl ?_ | refine WLe rfl rfl ?_ | refine W_region ?_ | refine WL2 inf rfl ?_ | refine WL_ld inf rfl rfl rfl rfl (Blk.cell (by assumption) rfl) ?_)
  exact W_ret1 rfl rfl rfl ⟨ret_bool (by rfl), (((((hE.then_ hE4).then_ hE5).then_ hE6).then_ hE7).then_ hE8).then_ hE9⟩
end Go.Proofs.YtljcmmmajjmpoaaGreatDoor
