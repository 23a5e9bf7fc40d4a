/- lanternlaw8.ResolveNothing, walked. -/
import Derived.Test.YtoalmjciodlkaaaGreatAwakb
namespace Go.Proofs.YtoalmjciodlkaaaGreat
open Go.RowKit Sp

theorem above_none (s : L) : aboveD none s = [] := by
  have h : ifaceKeys none s = [] := rfl
  unfold aboveD ifacesD
  rw [h]
  show [] ++ sortL [] = []
  simp [sortL]
theorem field_none (c n d : L) (s : Bool) : fieldD none c n d s = none := by unfold fieldD; rw [above_none]; rfl
theorem res_none (c n d : L) : resD none c n d = none := by unfold resD; rw [above_none]; rfl
theorem look_none (x : Ins) : lookD none x = none := by unfold lookD; rw [res_none]
theorem meth_none (c n d : L) : methD none c n d = none := rfl
theorem init_none (x : Ins) : initD none x = [] := by
  have h : initO none x = [] := by
    unfold initO
    rw [field_none, look_none]
    split
    · rfl
    · split
      · rfl
      · split <;> rfl
  unfold initD
  rw [h]
  rfl
theorem fit_none : FitP none := ⟨by show (0 : Nat) ≤ 1000; omega, by show (0 : Nat) ≤ 100000; omega⟩
theorem sum_ge : ∀ (xs : List Int) (n : Int), 0 ≤ n → (∀ x ∈ xs, 0 ≤ x) → 0 ≤ sumF n xs
  | [], n, h, _ => h
  | x :: r, n, h, hx => by
    unfold sumF
    split
    · omega
    · have := hx x (by simp)
      exact sum_ge r (n + x) (by omega) fun y hy => hx y (by simp [hy])
theorem enters_law : Enters Tryz.prog 3 := enters_of Tryz.func3 (by kernel_rfl) rfl
set_option maxRecDepth 100000 in
set_option maxHeartbeats 4000000 in
theorem law_any (a b c : L) (x : Ins) (w : World) (ha : Len a) (hb : Len b) (hc : Len c) (hx : Ins.ok x) :
    Calls Tryz.prog 3 #[.string (mkS a), .string (mkS b), .string (mkS c), .agg (Ins.cs x).toArray] w fun e w' => e = .returned (.bool true) ∧ Ext w w' := by
  have hsz : 0 ≤ sizeI x := sum_ge _ _ (by omega) (by simp)
  refine calls_W (args := [.string (mkS a), .string (mkS b), .string (mkS c), .agg (Ins.cs x).toArray]) Tryz.func3 rfl rfl rfl ?_
  refine Wg rfl (W_region ?_)
  refine WL_box (cs := Ins.cs x) rfl rfl rfl rfl rfl ?_
  rintro g7 w1 hg7 hB7 hE1
  repeat (first | refine WL1 rfl ?_ | refine WLe rfl rfl ?_ | refine W_region ?_ | refine WL2 inf rfl ?_ | refine WL_ld inf rfl rfl rfl rfl (Blk.cell (by assumption) rfl) ?_)
  refine WL_lenS rfl rfl rfl tS rfl rfl rfl (m := a.length) rfl ?_
  repeat (first | refine WL1 rfl ?_ | refine WLe rfl rfl ?_ | refine W_region ?_ | refine WL2 inf rfl ?_ | refine WL_ld inf rfl rfl rfl rfl (Blk.cell (by assumption) rfl) ?_)
  refine WL_lenS rfl rfl rfl tS rfl rfl rfl (m := b.length) rfl ?_
  repeat (first | refine WL1 rfl ?_ | refine WLe rfl rfl ?_ | refine W_region ?_ | refine WL2 inf rfl ?_ | refine WL_ld inf rfl rfl rfl rfl (Blk.cell (by assumption) rfl) ?_)
  refine WL_lenS rfl rfl rfl tS rfl rfl rfl (m := c.length) rfl ?_
  refine WL_lda inf (cs := Ins.cs x) rfl rfl rfl rfl hB7.cells ?_
  refine WL_call rfl rfl rfl rfl rfl enters_ainstr rfl (ainstr_any x _ hx) ?_
  rintro e w2 ⟨rfl, hE2⟩
  refine ⟨_, rfl, ?_⟩
  refine WL_bsl (cs := [(b.length : Int), (c.length : Int), sizeI x].map fun s => .int .i64 s) rfl rfl rfl rfl rfl (bs63_3 _ _ _ _) ?_
  rintro h w3 rfl hh hE3
  refine WL_callq rfl rfl rfl rfl rfl enters_sum rfl (fun _ => sum_any (a.length : Int) [(b.length : Int), (c.length : Int), sizeI x] _ _ (intSl hh rfl (by omega)) (by omega) (by omega) (by simp [hsz])) ?_
  have hE := (hE1.then_ hE2).then_ hE3
  have l7 := hB7.lt
  have z1 := hE1.size
  replace hB7 := (hB7.ext hE2).ext hE3
  repeat (first | refine WL1 rfl ?_ | refine WLe rfl rfl ?_ | refine W_region ?_ | refine WL2 inf rfl ?_ | refine WL_ld inf rfl rfl rfl rfl (Blk.cell (by assumption) rfl) ?_)
  refine W_cond rfl rfl (fun hb => ?_) (fun hb => ?_)
  · refine Wg rfl (W_region ?_)
    refine WL_call rfl rfl rfl rfl rfl enters_awake8 rfl (awake8_any _) ?_
    rintro e w4 ⟨rfl, hE4⟩
    refine ⟨_, rfl, ?_⟩
    repeat (first | refine WL1 rfl ?_ | refine WLe rfl rfl ?_ | refine W_region ?_ | refine WL2 inf rfl ?_ | refine WL_ld inf rfl rfl rfl rfl (Blk.cell (by assumption) rfl) ?_)
    exact W_ret1 rfl rfl rfl ⟨rfl, hE.then_ hE4⟩
  clear hb
  refine Wg rfl (W_region ?_)
  repeat (first | refine WL1 rfl ?_ | refine WLe rfl rfl ?_ | refine W_region ?_ | refine WL2 inf rfl ?_ | refine WL_ld inf rfl rfl rfl rfl (Blk.cell (by assumption) rfl) ?_)
  refine WL_call rfl rfl rfl rfl rfl enters_rField rfl (rField_any none a b c true (.pointer none) _ rfl ha fit_none) ?_
  rintro e w4 ⟨rfl, hE4⟩
  refine ⟨_, rfl, ?_⟩
  rw [field_none]
  repeat (first | refine WL1 rfl ?_ | refine WLe rfl rfl ?_ | refine W_region ?_ | refine WL2 inf rfl ?_ | refine WL_ld inf rfl rfl rfl rfl (Blk.cell (by assumption) rfl) ?_)
  refine WL_call rfl rfl rfl rfl rfl enters_rMethod rfl (rMethod_any none a b c (.pointer none) _ rfl ha fit_none (fun o m h => by rw [meth_none] at h; cases h)) ?_
  rintro e w5 ⟨cl5, rfl, hE5, hR5⟩
  refine ⟨_, rfl, ?_⟩
  rw [res_none]
  have hz5 := hR5.len
  have one5 := MthR.one _ _ _ _ hR5
  have hE45 := (hE.then_ hE4).then_ hE5
  have z5 := hE45.size
  replace hB7 := (hB7.ext hE4).ext hE5
  have k7 := hB7.lt
  repeat (first | refine WL1 rfl ?_ | refine WLe rfl rfl ?_ | refine W_region ?_ | refine WL2 inf rfl ?_ | refine WL_ld inf rfl rfl rfl rfl (Blk.cell (by assumption) rfl) ?_)
  refine WL_alloc inf rfl rfl rfl rfl rfl ?_
  rintro g12 w6 hg12 hB12 hE6
  repeat (first | refine WL1 rfl ?_ | refine WLe rfl rfl ?_ | refine W_region ?_ | refine WL2 inf rfl ?_ | refine WL_ld inf rfl rfl rfl rfl (Blk.cell (by assumption) rfl) ?_)
  refine WL_sta inf (cs' := cl5) rfl rfl rfl (by rw [hz5]; rfl) one5 rfl hB12 (by rw [hz5]; rfl) ?_
  rintro w7 hB12' u7
  replace hB7 := u7.blk (hB7.ext hE6) (by omega)
  have hE7 : Ext w w7 := u7.ext (hE45.then_ hE6) (by omega)
  clear hE4 hE5 hE6 hE45 hB12 hB12' u7
  repeat (first | refine WL1 rfl ?_ | refine WLe rfl rfl ?_ | refine W_region ?_ | refine WL2 inf rfl ?_ | refine WL_ld inf rfl rfl rfl rfl (Blk.cell (by assumption) rfl) ?_)
  refine WL_lda inf (cs := Ins.cs x) rfl rfl rfl rfl hB7.cells ?_
  refine WL_call rfl rfl rfl rfl rfl enters_rCall rfl (rCall_any none x (.pointer none) _ rfl hx.1 fit_none (fun o m h => by rw [meth_none] at h; cases h)) ?_
  rintro e w8 ⟨cl8, rfl, hE8, hR8⟩
  refine ⟨_, rfl, ?_⟩
  rw [look_none]
  have hz8 := hR8.len
  have one8 := MthR.one _ _ _ _ hR8
  replace hB7 := hB7.ext hE8
  have k8 := hB7.lt
  have z8 := (hE7.then_ hE8).size
  repeat (first | refine WL1 rfl ?_ | refine WLe rfl rfl ?_ | refine W_region ?_ | refine WL2 inf rfl ?_ | refine WL_ld inf rfl rfl rfl rfl (Blk.cell (by assumption) rfl) ?_)
  refine WL_alloc inf rfl rfl rfl rfl rfl ?_
  rintro g15 w9 hg15 hB15 hE9
  repeat (first | refine WL1 rfl ?_ | refine WLe rfl rfl ?_ | refine W_region ?_ | refine WL2 inf rfl ?_ | refine WL_ld inf rfl rfl rfl rfl (Blk.cell (by assumption) rfl) ?_)
  refine WL_sta inf (cs' := cl8) rfl rfl rfl (by rw [hz8]; rfl) one8 rfl hB15 (by rw [hz8]; rfl) ?_
  rintro w10 hB15' u10
  replace hB7 := u10.blk (hB7.ext hE9) (by omega)
  have hE10 : Ext w w10 := u10.ext ((hE7.then_ hE8).then_ hE9) (by omega)
  clear hE7 hE8 hE9 hB15 hB15' u10
  repeat (first | refine WL1 rfl ?_ | refine WLe rfl rfl ?_ | refine W_region ?_ | refine WL2 inf rfl ?_ | refine WL_ld inf rfl rfl rfl rfl (Blk.cell (by assumption) rfl) ?_)
  refine WL_call rfl rfl rfl rfl rfl enters_dispatch rfl (dispatch_any none a b c (.pointer none) _ rfl ha fit_none (fun o m h => by rw [meth_none] at h; cases h)) ?_
  rintro e w11 ⟨cl11, rfl, hE11, hR11⟩
  refine ⟨_, rfl, ?_⟩
  have hdn : dispD none a b c = none := rfl
  rw [hdn]
  have hz11 := hR11.len
  have one11 := MthR.one _ _ _ _ hR11
  replace hB7 := hB7.ext hE11
  have k11 := hB7.lt
  have z11 := (hE10.then_ hE11).size
  repeat (first | refine WL1 rfl ?_ | refine WLe rfl rfl ?_ | refine W_region ?_ | refine WL2 inf rfl ?_ | refine WL_ld inf rfl rfl rfl rfl (Blk.cell (by assumption) rfl) ?_)
  refine WL_alloc inf rfl rfl rfl rfl rfl ?_
  rintro g18 w12 hg18 hB18 hE12
  repeat (first | refine WL1 rfl ?_ | refine WLe rfl rfl ?_ | refine W_region ?_ | refine WL2 inf rfl ?_ | refine WL_ld inf rfl rfl rfl rfl (Blk.cell (by assumption) rfl) ?_)
  refine WL_sta inf (cs' := cl11) rfl rfl rfl (by rw [hz11]; rfl) one11 rfl hB18 (by rw [hz11]; rfl) ?_
  rintro w13 hB18' u13
  replace hB7 := u13.blk (hB7.ext hE12) (by omega)
  have hE13 : Ext w w13 := u13.ext ((hE10.then_ hE11).then_ hE12) (by omega)
  clear hE10 hE11 hE12 hB18 hB18' u13
  repeat (first | refine WL1 rfl ?_ | refine WLe rfl rfl ?_ | refine W_region ?_ | refine WL2 inf rfl ?_ | refine WL_ld inf rfl rfl rfl rfl (Blk.cell (by assumption) rfl) ?_)
  refine WL_callg rfl rfl rfl enters_clinit rfl (fun _ => clinit_any none a (.pointer none) _ rfl) ?_
  intro w14 hE14
  rw [meth_none]
  replace hB7 := hB7.ext hE14
  repeat (first | refine WL1 rfl ?_ | refine WLe rfl rfl ?_ | refine W_region ?_ | refine WL2 inf rfl ?_ | refine WL_ld inf rfl rfl rfl rfl (Blk.cell (by assumption) rfl) ?_)
  refine WL_lda inf (cs := Ins.cs x) rfl rfl rfl rfl hB7.cells ?_
  refine WL_callg rfl rfl rfl enters_initializes rfl (fun _ => initializes_any none x (.pointer none) _ rfl hx.1 fit_none) ?_
  intro w15 hE15
  rw [init_none]
  repeat (first | refine WL1 rfl ?_ | refine WLe rfl rfl ?_ | refine W_region ?_ | refine WL2 inf rfl ?_ | refine WL_ld inf rfl rfl rfl rfl (Blk.cell (by assumption) rfl) ?_)
  refine WL_callg rfl rfl rfl enters_awake8 rfl (fun _ => awake8_any _) ?_
  intro w16 hE16
  repeat (first | refine WL1 rfl ?_ | refine WLe rfl rfl ?_ | refine W_region ?_ | refine WL2 inf rfl ?_ | refine WL_ld inf rfl rfl rfl rfl (Blk.cell (by assumption) rfl) ?_)
  exact W_ret1 rfl rfl rfl ⟨ret_bool (by rfl), ((hE13.then_ hE14).then_ hE15).then_ hE16⟩
end Go.Proofs.YtoalmjciodlkaaaGreat
