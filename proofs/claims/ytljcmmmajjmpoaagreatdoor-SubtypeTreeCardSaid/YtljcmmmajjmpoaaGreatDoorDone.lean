/- link: done. -/
import Derived.Test.YtljcmmmajjmpoaaGreatDoorSortb
namespace Go.Proofs.YtljcmmmajjmpoaaGreatDoor
open Go.RowKit Sp

section
variable {P : Program} {n : Nat} {fr : Fr} {w : World} {k : Kt} {ops : Array Oper} {rest : List Oper}
/-- append of a row of the call's own onto another. -/
theorem WL_appO (E : ElemI P) {d : Nat} {x y : Operand} {t ty : TypeId} {pos : String} {aft : Array Edge} {gd : Option (Nat × Bool)} {v v2 : Value} {base base2 z : Nat} {e : TypeId} {css ncs : List (List Value)}
    (hp : pathOf ops fr ⟨some d, .call { callee := .builtin .append, args := #[x, y], argTypes := #[t, t] }, ty, pos, aft, gd⟩ = some []) (hx : gv fr [] x = some v) (hy : gv fr [] y = some v2)
    (ht : E.row t = some (e, z)) (hck : (decide (d < n) && fresh d fr) = true) (hown : OwnR base e z w v css) (hown2 : OwnR base2 e z w v2 ncs) (h1 : ∀ cs ∈ ncs, ∀ u ∈ cs, u.oneCell' = true)
    (hle : css.length + ncs.length ≤ 549755813888) (hb : base ≤ w.heap.size)
    (h : ∀ v' w', OwnR base e z w' v' (css ++ ncs) → w.grownBy w' v.ownBlock → (v'.ownBlock = v.ownBlock ∨ v'.ownBlock = some w.heap.size) → WL P n ops rest ((d, [], v') :: fr) w' k) :
    WL P n ops (⟨some d, .call { callee := .builtin .append, args := #[x, y], argTypes := #[t, t] }, ty, pos, aft, gd⟩ :: rest) fr w k := by
  obtain ⟨⟨hfl, h2⟩, h3⟩ := id hown2
  rcases h2 with ⟨rfl, h0⟩ | ⟨g, cap, cur, rfl, h5, h6, h7, h8, h9, h10⟩
  · have hn : ncs = [] := List.eq_nil_of_length_eq_zero h0
    subst hn
    have hv : ∃ A m c, v = .slice A m c ∧ m ≤ c := by
      obtain ⟨⟨_, h2⟩, _⟩ := hown
      rcases h2 with ⟨rfl, _⟩ | ⟨g, cap, cur, rfl, _, _, h7, _⟩
      · exact ⟨none, 0, 0, rfl, Nat.le_refl _⟩
      · exact ⟨_, _, _, rfl, h7⟩
    obtain ⟨A, m, c, rfl, hmc⟩ := hv
    simp only [Bool.and_eq_true] at hck
    refine WL_app0 E hp hx hmc hy ht (by simp [hck.1, hck.2, freshP]) (h _ _ ?_ (World.grownBy.refl w _) (.inl rfl))
    rw [List.append_nil]
    exact hown
  · have hc : CellsAt w ⟨g, 0, none⟩ ncs.flatten := fun j u hj => by
      have hf := hj
      rw [← h10, List.getElem?_take] at hf
      split at hf
      · rw [add_lit0]
        simp only [World.cell?, h6, Option.isSome_none, Bool.false_eq_true, if_false]
        rw [← Array.getElem?_toList]
        exact hf
      · cases hf
    exact WL_app E hp hx hy rfl ht hck hown hc rfl h3 h1 hle hb h
end
theorem PrgV.one {w : World} {pv : Value} {P : Option (List Cls)} (h : PrgV w pv P) : pv.oneCell' = true := by
  cases P with
  | none => rw [show pv = .pointer none from h]; rfl
  | some cs => obtain ⟨q, rfl, _⟩ := h; rfl
theorem PrgV.isNil {w : World} {pv : Value} {P : Option (List Cls)} (h : PrgV w pv P) : ∃ a, pv = .pointer a ∧ a.isNone = P.isNone := by
  cases P with
  | none => exact ⟨none, h, rfl⟩
  | some cs => obtain ⟨q, h1, _⟩ := h; exact ⟨_, h1, rfl⟩
theorem str_one (l : List L) : ∀ cs ∈ l.map strC, ∀ u ∈ cs, u.oneCell' = true := by
  intro cs hcs u hu
  obtain ⟨s, _, rfl⟩ := List.mem_map.1 hcs
  simp [strC] at hu
  subst hu
  rfl
theorem chainF_mem (P : Option (List Cls)) : ∀ (n : Nat) (out : List L) (name : L), out.Nodup → (∀ s ∈ out, (findP P s).isSome = true) → (chainF P n out name).Nodup ∧ ∀ s ∈ chainF P n out name, (findP P s).isSome = true
  | 0, out, name, h1, h2 => ⟨h1, h2⟩
  | n + 1, out, name, h1, h2 => by
    unfold chainF
    cases hf : findP P name with
    | none => exact ⟨h1, h2⟩
    | some c =>
      dsimp only
      split
      · exact ⟨h1, h2⟩
      · rename_i hc
        refine chainF_mem P n _ _ (List.nodup_append.2 ⟨h1, by simp, fun a ha b hb e => ?_⟩) fun s hs => ?_
        · simp at hb; subst hb; subst e; exact hc (by simpa using ha)
        · rcases List.mem_append.1 hs with h | h
          · exact h2 s h
          · simp at h; subst h; rw [hf]; rfl
theorem chainD_len (P : Option (List Cls)) (name : L) : (chainD P name).length ≤ sizeP P := by
  have h := chainF_mem P (sizeP P + 1) [] name (by simp) (by simp)
  exact names_le h.1 h.2
theorem ifacesD_len (P : Option (List Cls)) (name : L) : (ifacesD P name).length ≤ (allI P).length + 1 := by
  unfold ifacesD sortL ifaceKeys
  rw [List.length_mergeSort]
  have := upS_len P name
  split <;> simp <;> omega
/-- What a class must have. -/
def lackB (P : Option (List Cls)) (c : L) (m : Mth) : Bool := m.abst && !(hasD P c m.name m.desc).isSome
def aboveD (P : Option (List Cls)) (c : L) : List L := chainD P c ++ ifacesD P c
def doneD (P : Option (List Cls)) (c : Cls) : Bool := c.abst || (aboveD P c.name).all fun s => ((findP P s).getD zeroC).methods.all fun m => !lackB P c.name m
theorem enters_done : Enters Tryz.prog 63 := enters_of Tryz.func63 (by kernel_rfl) rfl
set_option maxRecDepth 100000 in
set_option maxHeartbeats 4000000 in
theorem done_any {B : Nat → Prop} (P : Option (List Cls)) (c : Cls) (pv : Value) (cs : List Value) (w : World) (hP : PrgV w pv P) (hf : FitP P) (hc : ClsR B w c cs) :
    Calls Tryz.prog 63 #[pv, .agg cs.toArray] w fun e w' => e = .returned (.bool (doneD P c)) ∧ Ext w w' := by
  have hpc := hP.one
  have hf1 := hf.1
  have hf2 := hf.2
  obtain ⟨iv, fv, mv, rfl, hl1, hl2, -⟩ := hc
  refine calls_W (args := [pv, .agg (Cls.cs c iv fv mv).toArray]) Tryz.func63 rfl rfl rfl ?_
  refine Wg rfl (W_region ?_)
  refine WL_box (cs := Cls.cs c iv fv mv) rfl rfl rfl rfl rfl ?_
  rintro g w1 hg hB hE
  repeat (first | refine WL1 rfl ?_ | refine WLe rfl rfl ?_ | refine W_region ?_ | refine WL2 inf rfl ?_ | refine WL_ld inf rfl rfl rfl rfl (Blk.cell (by assumption) rfl) ?_)
  refine W_cond rfl rfl (fun hb => ?_) (fun hb => ?_)
  · refine Wg rfl (W_region ?_)
    repeat (first | refine WL1 rfl ?_ | refine WLe rfl rfl ?_ | refine W_region ?_ | refine WL2 inf rfl ?_ | refine WL_ld inf rfl rfl rfl rfl (Blk.cell (by assumption) rfl) ?_)
    refine W_ret1 rfl rfl rfl ⟨?_, hE⟩
    unfold doneD
    rw [show c.abst = true from hb]
    rfl
  have hD : doneD P c = (aboveD P c.name).all fun s => ((findP P s).getD zeroC).methods.all fun m => !lackB P c.name m := by
    unfold doneD; rw [show c.abst = false from hb]; rfl
  clear hb
  refine Wg rfl ?_
  have hBd : Blk w1.drew g 44 (Cls.cs c iv fv mv) := hB
  have hEd := hE.then_ (Ext.drew_ w1)
  refine W_draws (fun W' => Ext w1.drew W') [] mixed_ ?_
  refine WDp 0 rfl (by first | exact stepV_yl _ rfl | exact stepI_yl _ inf rfl) (by kernel_rfl) ?_
  refine WDp 1 rfl (by first | exact stepV_yl _ rfl | exact stepI_yl _ inf rfl) (by kernel_rfl) ?_
  refine WDq 2 rfl (yl_ld inf rfl rfl rfl rfl (fun W' hS => (hBd.ext hS).cell rfl)) (Ext.rfl' _) (by kernel_rfl) ?_
  refine WDp 4 rfl (by first | exact stepV_yl _ rfl | exact stepI_yl _ inf rfl) (by kernel_rfl) ?_
  refine WDp 5 rfl (by first | exact stepV_yl _ rfl | exact stepI_yl _ inf rfl) (by kernel_rfl) ?_
  refine WDq 6 rfl (yl_ld inf rfl rfl rfl rfl (fun W' hS => (hBd.ext hS).cell rfl)) (Ext.rfl' _) (by kernel_rfl) ?_
  refine WDp 10 rfl (by first | exact stepV_yl _ rfl | exact stepI_yl _ inf rfl) (by kernel_rfl) ?_
  refine WDl 3 rfl (by kernel_rfl) (WL_call rfl rfl rfl rfl rfl enters_chain rfl (chain_any P c.name pv _ (hP.ext hEd) hl1 hf1) ?_)
  rintro e w4 ⟨cv, rfl, hE4, hown, hcl⟩
  refine ⟨_, rfl, WDc (fun h => h.then_ hE4) ?_⟩
  refine WDl 7 rfl (by kernel_rfl) (WL_call rfl rfl rfl rfl rfl enters_interfaces rfl (interfaces_any P c.name pv _ (hP.ext (hEd.then_ hE4)) hl1 hf) ?_)
  rintro e w5 ⟨iv2, rfl, hE5, hown2, hcl2⟩
  refine ⟨_, rfl, WDc (fun h => h.then_ hE5) ?_⟩
  have hz4 := (hEd.then_ hE4).size
  have hz5 := hE5.size
  have hz45 := hE4.size
  refine WDl 8 rfl (by kernel_rfl) (WL_appO ei rfl rfl rfl rfl rfl (hown.ext hE5) hown2 (str_one _) (by have h1 := chainD_len P c.name; have h2 := ifacesD_len P c.name; simp; omega) (by omega) ?_)
  rintro v6 w6 hown6 hg6 hr6
  have hownc := hown.own
  have hE56 : Ext w5 w6 ∨ True := .inr trivial
  have hEw6 : Ext w1.drew w6 := grown_ext hg6 (hE4.then_ hE5) fun b hb => (hownc b hb).1
  have hB6 : Blk w6 g 44 (Cls.cs c iv fv mv) := hBd.ext hEw6
  rw [← List.map_append] at hown6
  refine WDc (fun _ => hEw6) ?_
  obtain ⟨A, cp, rfl⟩ := hown6.val
  rw [List.length_map] at *
  refine WDp 9 rfl (by first | exact stepV_yl _ rfl | exact stepI_yl _ inf rfl) (by kernel_rfl) ?_
  refine WDe (by kernel_rfl) ?_
  have hEn : Ext w w6 := hEd.then_ hEw6
  have hcl6 : ∀ s ∈ aboveD P c.name, Len s := fun s hs => by
    rcases List.mem_append.1 hs with h | h
    · exact hcl s h
    · exact hcl2 s h
  have hbase : w1.drew.heap.size ≤ w6.heap.size := hEw6.size
  change OwnR _ _ _ _ (.slice A (aboveD P c.name).length cp) ((aboveD P c.name).map strC) at hown6
  have hal : (aboveD P c.name).length ≤ 9223372036854775807 := (hown6.sl (R := StrR) (B := Any_) (strEach _ _ _ hcl6) fun _ _ => trivial).len
  repeat (first | refine WL1 rfl ?_ | refine WLe rfl rfl ?_ | refine W_region ?_ | refine WL2 inf rfl ?_ | refine WL_ld inf rfl rfl rfl rfl (Blk.cell (by assumption) rfl) ?_)
  refine W_loop (fun k : Nat => [(0, [], pv), (3, [], .pointer (some ⟨g, 0, none⟩)), (23, [], .slice A (aboveD P c.name).length cp), (24, [], .int .i64 (aboveD P c.name).length), (25, [], .int .i64 k)])
    (fun k W => k ≤ (aboveD P c.name).length ∧ Ext w W ∧ Blk W g 44 (Cls.cs c iv fv mv) ∧ OwnR w1.drew.heap.size 9 1 W (.slice A (aboveD P c.name).length cp) ((aboveD P c.name).map strC) ∧ ∀ i s, i < k → (aboveD P c.name)[i]? = some s → (((findP P s).getD zeroC).methods.all fun m => !lackB P c.name m) = true)
    (fun k => (aboveD P c.name).length - k) 0 (fun _ => rfl) ⟨rfl, rfl, rfl, rfl, rfl, trivial⟩ ⟨Nat.zero_le _, hEn, hB6, hown6, fun i s h => absurd h (Nat.not_lt_zero i)⟩ ?_
  clear hown hown2 hown6 hB6 hBd hB hE hEd hg6 hr6 hE4 hE5 hEw6 hEn hownc
  rintro k W ⟨hk, hE, hB, hown, hno⟩
  refine Wg rfl (W_region ?_)
  repeat (first | refine WL1 rfl ?_ | refine WLe rfl rfl ?_ | refine W_region ?_ | refine WL2 inf rfl ?_ | refine WL_ld inf rfl rfl rfl rfl (Blk.cell (by assumption) rfl) ?_)
  refine W_cond rfl rfl (fun hb => ?_) (fun hb => ?_)
  · have hlt : k < (aboveD P c.name).length := by simpa using hb
    have hx : (aboveD P c.name)[k]? = some (aboveD P c.name)[k] := List.getElem?_eq_getElem hlt
    generalize (aboveD P c.name)[k] = s at hx
    obtain ⟨g9, c', hv, hge, hgl, hcells⟩ := hown.cells (i := k) (cs := strC s) (by rw [List.getElem?_map, hx]; rfl)
    have hA : A = some ⟨g9, 0, none⟩ := congrArg (fun v => match v with | Value.slice A _ _ => A | _ => none) hv
    subst hA
    refine Wg rfl (W_region ?_)
    refine WL_ix inf rfl rfl rfl rfl rfl (fun _ => ⟨by omega, by omega⟩) ?_
    refine WL_ld inf rfl rfl rfl rfl (hcells.at_ (j := 0) rfl) ?_
    repeat (first | refine WL1 rfl ?_ | refine WLe rfl rfl ?_ | refine W_region ?_ | refine WL2 inf rfl ?_ | refine WL_ld inf rfl rfl rfl rfl (Blk.cell (by assumption) rfl) ?_)
    refine WL_call rfl rfl rfl rfl rfl enters_find rfl (find_any P s pv _ (hP.ext hE)) ?_
    rintro e w2 ⟨cl, rfl, hE2, hR⟩
    refine ⟨_, rfl, ?_⟩
    have hz := hR.len
    repeat (first | refine WL1 rfl ?_ | refine WLe rfl rfl ?_ | refine W_region ?_ | refine WL2 inf rfl ?_ | refine WL_ld inf rfl rfl rfl rfl (Blk.cell (by assumption) rfl) ?_)
    refine WL_alloc inf rfl rfl rfl rfl rfl ?_
    rintro g8 w3 hg8 hB3 hE3
    refine WL_sta inf (cs' := cl) rfl rfl rfl (by rw [hz]; rfl) (ClsR.one _ _ _ _ hR) rfl hB3 (by rw [hz]; rfl) ?_
    rintro w4 hB4 u4
    have hE4 : Ext W w4 := u4.ext (hE2.then_ hE3) (by have := hE2.size; omega)
    have hR4 := ClsR.mono _ _ _ _ _ _ hR hE4.keeps fun _ h => h
    obtain ⟨iv8, fv8, mv8, rfl, -, -, -, -, hsm⟩ := hR4
    generalize hms : ((findP P s).getD zeroC).methods = ms at hsm
    have hml := hsm.len
    obtain ⟨Am, cm, rfl, hm1, hm2, hrm⟩ := hsm
    repeat (first | refine WL1 rfl ?_ | refine WLe rfl rfl ?_ | refine W_region ?_ | refine WL2 inf rfl ?_ | refine WL_ld inf rfl rfl rfl rfl (Blk.cell (by assumption) rfl) ?_)
    refine W_loop (fun j : Nat => [(0, [], pv), (3, [], .pointer (some ⟨g, 0, none⟩)), (23, [], .slice (some ⟨g9, 0, none⟩) (aboveD P c.name).length cp), (24, [], .int .i64 (aboveD P c.name).length), (25, [], .int .i64 k), (36, [], .slice Am ms.length cm), (37, [], .int .i64 ms.length), (38, [], .int .i64 j)])
      (fun j W => j ≤ ms.length ∧ Ext w W ∧ Blk W g 44 (Cls.cs c iv fv mv) ∧ OwnR w1.drew.heap.size 9 1 W (.slice (some ⟨g9, 0, none⟩) (aboveD P c.name).length cp) ((aboveD P c.name).map strC) ∧ Row MthR 8 Any_ W Am ms ∧ ∀ i m, i < j → ms[i]? = some m → lackB P c.name m = false)
      (fun j => ms.length - j) 0 (fun _ => rfl) ⟨rfl, rfl, rfl, rfl, rfl, rfl, rfl, rfl, trivial⟩ ⟨Nat.zero_le _, hE.then_ hE4, hB.ext hE4, hown.ext hE4, hrm, fun i m h => absurd h (Nat.not_lt_zero i)⟩ ?_
    clear hB hown hrm hB3 hB4 hcells hE2 hE3 hE4 u4 hE hb
    rintro j W ⟨hj, hE, hB, hown, hrm, hmo⟩
    refine Wg rfl (W_region ?_)
    repeat (first | refine WL1 rfl ?_ | refine WLe rfl rfl ?_ | refine W_region ?_ | refine WL2 inf rfl ?_ | refine WL_ld inf rfl rfl rfl rfl (Blk.cell (by assumption) rfl) ?_)
    refine W_cond rfl rfl (fun hb => ?_) (fun hb => ?_)
    · have hlt2 : j < ms.length := by simpa using hb
      have hx2 : ms[j]? = some ms[j] := List.getElem?_eq_getElem hlt2
      generalize ms[j] = m at hx2
      obtain ⟨a, cs, rfl, hz2, hmR, hcs⟩ := hrm.at_ hx2
      have hmone := MthR.one _ _ _ _ hmR
      have hmR0 := hmR
      obtain ⟨c3, h3, rfl, hn1, hn2, -⟩ := hmR
      refine Wg rfl (W_region ?_)
      refine WL_ix inf rfl rfl rfl rfl rfl (fun _ => ⟨by omega, by omega⟩) ?_
      refine WL_lda inf (cs := Mth.cs m c3 h3) rfl rfl rfl rfl hcs.cells ?_
      refine WL_alloc inf rfl rfl rfl rfl rfl ?_
      rintro g10 w5 hg10 hB5 hE5
      refine WL_sta inf (cs' := Mth.cs m c3 h3) rfl rfl rfl rfl hmone rfl hB5 rfl ?_
      rintro w6 hB6 u6
      have hE6 : Ext W w6 := u6.ext hE5 (by omega)
      replace hB := hB.ext hE6
      repeat (first | refine WL1 rfl ?_ | refine WLe rfl rfl ?_ | refine W_region ?_ | refine WL2 inf rfl ?_ | refine WL_ld inf rfl rfl rfl rfl (Blk.cell (by assumption) rfl) ?_)
      refine WL_call rfl rfl rfl rfl rfl enters_has rfl (has_any P c.name m.name m.desc pv _ hpc (hP.ext (hE.then_ hE6)) hf1 hl1) ?_
      rintro e w7 ⟨rfl, hE7⟩
      refine ⟨_, rfl, ?_⟩
      replace hB6 := hB6.ext hE7
      repeat (first | refine WL1 rfl ?_ | refine WLe rfl rfl ?_ | refine W_region ?_ | refine WL2 inf rfl ?_ | refine WL_ld inf rfl rfl rfl rfl (Blk.cell (by assumption) rfl) ?_)
      refine W_cond rfl rfl (fun hc => ?_) (fun hc => ?_)
      · refine Wg rfl (W_region ?_)
        repeat (first | refine WL1 rfl ?_ | refine WLe rfl rfl ?_ | refine W_region ?_ | refine WL2 inf rfl ?_ | refine WL_ld inf rfl rfl rfl rfl (Blk.cell (by assumption) rfl) ?_)
        refine W_ret1 rfl rfl rfl ⟨?_, (hE.then_ hE6).then_ hE7⟩
        have h4 : lackB P c.name m = true := hc
        have h5 : doneD P c = false := by
          rw [hD]
          rw [List.all_eq_false]
          refine ⟨s, List.mem_of_getElem? hx, ?_⟩
          rw [hms]
          simp only [Bool.not_eq_true, List.all_eq_false]
          exact ⟨m, List.mem_of_getElem? hx2, by simp [h4]⟩
        rw [h5]
      · refine Wg rfl (W_region ?_)
        refine WL_add rfl rfl rfl rfl rfl rfl rfl (fun _ => by omega) ?_
        repeat (first | refine WL1 rfl ?_ | refine WLe rfl rfl ?_ | refine W_region ?_ | refine WL2 inf rfl ?_ | refine WL_ld inf rfl rfl rfl rfl (Blk.cell (by assumption) rfl) ?_)
        refine WLr rfl (j + 1) (by omega) ⟨hlt2, (hE.then_ hE6).then_ hE7, hB.ext hE7, (hown.ext hE6).ext hE7, hrm.mono MthR.mono (hE6.then_ hE7).keeps fun _ h => h, fun i y hi hy => ?_⟩ rfl ⟨rfl, rfl, rfl, rfl, rfl, rfl, rfl, rfl, trivial⟩
        rcases Nat.lt_or_eq_of_le (Nat.le_of_lt_succ hi) with h1 | rfl
        · exact hmo i y h1 hy
        · rw [hx2] at hy; cases hy; exact hc
    · have hj' : j = ms.length := by simp at hb; omega
      subst hj'
      refine Wg rfl (W_region ?_)
      refine WL_add rfl rfl rfl rfl rfl rfl rfl (fun _ => by omega) ?_
      repeat (first | refine WL1 rfl ?_ | refine WLe rfl rfl ?_ | refine W_region ?_ | refine WL2 inf rfl ?_ | refine WL_ld inf rfl rfl rfl rfl (Blk.cell (by assumption) rfl) ?_)
      refine WLr rfl (k + 1) (by omega) ⟨hlt, hE, hB, hown, fun i y hi hy => ?_⟩ rfl ⟨rfl, rfl, rfl, rfl, rfl, trivial⟩
      rcases Nat.lt_or_eq_of_le (Nat.le_of_lt_succ hi) with h1 | rfl
      · exact hno i y h1 hy
      · rw [hx] at hy; cases hy
        rw [hms, List.all_eq_true]
        intro m hm
        obtain ⟨i2, hi2, rfl⟩ := List.getElem_of_mem hm
        rw [hmo i2 _ hi2 (List.getElem?_eq_getElem hi2)]
        rfl
  · have hk' : k = (aboveD P c.name).length := by simp at hb; omega
    subst hk'
    refine Wg rfl (W_region ?_)
    repeat (first | refine WL1 rfl ?_ | refine WLe rfl rfl ?_ | refine W_region ?_ | refine WL2 inf rfl ?_ | refine WL_ld inf rfl rfl rfl rfl (Blk.cell (by assumption) rfl) ?_)
    refine W_ret1 rfl rfl rfl ⟨?_, hE⟩
    have h5 : doneD P c = true := by
      rw [hD, List.all_eq_true]
      intro s hs
      obtain ⟨i2, hi2, rfl⟩ := List.getElem_of_mem hs
      exact hno i2 _ hi2 (List.getElem?_eq_getElem hi2)
    rw [h5]
end Go.Proofs.YtljcmmmajjmpoaaGreatDoor
