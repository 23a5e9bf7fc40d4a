/- link: Look, Method; resolve: above, method, Method, Dispatch, Clinit. -/
import Derived.Test.YtoalmjciodlkaaaGreatClasses
namespace Go.Proofs.YtoalmjciodlkaaaGreat
open Go.RowKit Sp

def zeroM : Mth := ⟨[], [], false, false, 0, 0, [], []⟩
def zMv : List Value := Mth.cs zeroM (.slice none 0 0) (.slice none 0 0)
def zCv : List Value := Cls.cs zeroC (.slice none 0 0) (.slice none 0 0) (.slice none 0 0)
theorem zeroM_rep (B : Nat → Prop) (w : World) : MthR B w zeroM zMv := ⟨_, _, rfl, by simp [zeroM], by simp [zeroM], Sl.nil _ _ _ _, Sl.nil _ _ _ _⟩
theorem bldM0 (w : World) : (Instr.build 33 [].toArray).run Tryz.prog w = .ok (.agg zMv.toArray) w := by kernel_rfl
theorem zMv_one : ∀ v ∈ zMv, v.oneCell' = true := Mth.one _ rfl rfl
theorem enters_look : Enters Tryz.prog 26 := enters_of Tryz.func26 (by kernel_rfl) rfl
theorem look_any (P : Option (List Cls)) (s : L) (pv : Value) (w : World) (hP : PrgV w pv P) :
    Calls Tryz.prog 26 #[pv, .string (mkS s)] w fun e w' => ∃ cells, e = .returned (.tuple #[.agg cells.toArray, .bool (findP P s).isSome]) ∧ Ext w w' ∧ ClsR Any_ w ((findP P s).getD zeroC) cells := by
  refine calls_W (args := [pv, .string (mkS s)]) Tryz.func26 rfl rfl rfl ?_
  refine Wg rfl (W_region ?_)
  refine WL_alloc inf (cs := zCv) rfl rfl rfl rfl rfl ?_
  rintro g w1 hg hB hE
  repeat (first | refine WL1 rfl ?_ | refine WLe rfl rfl ?_ | refine W_region ?_ | refine WL2 inf rfl ?_ | refine WL_ld inf rfl rfl rfl rfl (Blk.cell (by assumption) rfl) ?_)
  refine WL_call rfl rfl rfl rfl rfl enters_find rfl (find_at P s pv w _ hP hE) ?_
  rintro e w2 ⟨cl, rfl, hE2, hR⟩
  refine ⟨_, rfl, ?_⟩
  have hz := hR.len
  replace hB := hB.ext hE2
  repeat (first | refine WL1 rfl ?_ | refine WLe rfl rfl ?_ | refine W_region ?_ | refine WL2 inf rfl ?_ | refine WL_ld inf rfl rfl rfl rfl (Blk.cell (by assumption) rfl) ?_)
  refine WL_sta inf (cs' := cl) rfl rfl rfl (by rw [hz]; rfl) (ClsR.one _ _ _ _ hR) rfl hB (by rw [hz]; rfl) ?_
  rintro w3 hB3 u3
  repeat (first | refine WL1 rfl ?_ | refine WLe rfl rfl ?_ | refine W_region ?_ | refine WL2 inf rfl ?_ | refine WL_ld inf rfl rfl rfl rfl (Blk.cell (by assumption) rfl) ?_)
  exact W_retL [.agg cl.toArray, .bool (findP P s).isSome] rfl rfl ⟨⟨_, rfl, loadVar_agg inf (by rw [hz]; rfl) hB3.cells⟩, rfl, trivial⟩ ⟨cl, rfl, u3.ext (hE.then_ hE2) (by omega), hR⟩
def isM (name d : L) (m : Mth) : Bool := m.name == name && m.desc == d
theorem enters_method1 : Enters Tryz.prog 75 := enters_of Tryz.func75 (by kernel_rfl) rfl
theorem method1_any {B : Nat → Prop} (name d : L) (m : Mth) (cs : List Value) (g1 g2 : Nat) (w : World) (hm : MthR B w m cs) (h1 : Blk w g1 9 [.string (mkS name)]) (h2 : Blk w g2 9 [.string (mkS d)]) :
    Calls Tryz.prog 75 #[.agg cs.toArray, .pointer (some ⟨g1, 0, none⟩), .pointer (some ⟨g2, 0, none⟩)] w fun e w' => e = .returned (.bool (isM name d m)) ∧ Ext w w' := by
  obtain ⟨c, h, rfl, -⟩ := hm
  refine calls_W (args := [.agg (Mth.cs m c h).toArray, .pointer (some ⟨g1, 0, none⟩), .pointer (some ⟨g2, 0, none⟩)]) Tryz.func75 rfl rfl rfl ?_
  refine Wg rfl (W_region ?_)
  refine WL_box (cs := Mth.cs m c h) rfl rfl rfl rfl rfl ?_
  rintro g w1 hg hB hE
  replace h1 := h1.ext hE
  replace h2 := h2.ext hE
  repeat (first | refine WL1 rfl ?_ | refine WLe rfl rfl ?_ | refine W_region ?_ | refine WL2 inf rfl ?_ | refine WL_ld inf rfl rfl rfl rfl (Blk.cell (by assumption) rfl) ?_)
  exact W_ret1 rfl rfl rfl ⟨rfl, hE⟩
/-- A class's own method. -/
def methD (P : Option (List Cls)) (cls name d : L) : Option Mth := ((findP P cls).getD zeroC).methods.find? (isM name d)
theorem enters_pmethod : Enters Tryz.prog 32 := enters_of Tryz.func32 (by kernel_rfl) rfl
set_option maxHeartbeats 4000000 in
theorem pmethod_at (P : Option (List Cls)) (cls name d : L) (pv : Value) (w0 w : World) (hP : PrgV w0 pv P) (hE0 : Ext w0 w) :
    Calls Tryz.prog 32 #[pv, .string (mkS cls), .string (mkS name), .string (mkS d)] w fun e w' => ∃ cells, e = .returned (.tuple #[.agg cells.toArray, .bool (methD P cls name d).isSome]) ∧ Ext w w' ∧ MthR Any_ w0 ((methD P cls name d).getD zeroM) cells := by
  refine calls_W (args := [pv, .string (mkS cls), .string (mkS name), .string (mkS d)]) Tryz.func32 rfl rfl rfl ?_
  refine Wg rfl (W_region ?_)
  refine WL_box (cs := [.string (mkS name)]) rfl rfl rfl rfl rfl ?_
  rintro g6 w2 hg6 hB6 hE2
  refine WL_box (cs := [.string (mkS d)]) rfl rfl rfl rfl rfl ?_
  rintro g7 w3 hg7 hB7 hE3
  refine WL_alloc inf (cs := zMv) rfl rfl rfl rfl rfl ?_
  rintro g8 w4 hg8 hB8 hE4
  have hE := (hE2.then_ hE3).then_ hE4
  have z2 := hE2.size
  have z3 := hE3.size
  have z4 := hE4.size
  replace hB6 := (hB6.ext hE3).ext hE4
  replace hB7 := hB7.ext hE4
  repeat (first | refine WL1 rfl ?_ | refine WLe rfl rfl ?_ | refine W_region ?_ | refine WL2 inf rfl ?_ | refine WL_ld inf rfl rfl rfl rfl (Blk.cell (by assumption) rfl) ?_)
  refine WL_call rfl rfl rfl rfl rfl enters_find rfl (find_at P cls pv w0 _ hP (hE0.then_ hE)) ?_
  rintro e w5 ⟨cl, rfl, hE5, hR⟩
  refine ⟨_, rfl, ?_⟩
  replace hB6 := hB6.ext hE5
  replace hB7 := hB7.ext hE5
  replace hB8 := hB8.ext hE5
  have hone := ClsR.one _ _ _ _ hR
  obtain ⟨iv8, fv8, mv8, rfl, -, -, -, -, hsm⟩ := hR
  have hms : ((findP P cls).getD zeroC).methods.find? (isM name d) = methD P cls name d := rfl
  repeat (first | refine WL1 rfl ?_ | refine WLe rfl rfl ?_ | refine W_region ?_ | refine WL2 inf rfl ?_ | refine WL_ld inf rfl rfl rfl rfl (Blk.cell (by assumption) rfl) ?_)
  refine WL_alloc inf rfl rfl rfl rfl rfl ?_
  rintro g10 w6 hg10 hB10 hE6
  refine WL_sta inf (cs' := Cls.cs ((findP P cls).getD zeroC) iv8 fv8 mv8) rfl rfl rfl rfl hone rfl hB10 rfl ?_
  rintro w7 hB10' u7
  have z5 := hE5.size
  have hE57 : Ext w5 w7 := u7.ext hE6 (by omega)
  have hE7 : Ext w w7 := (hE.then_ hE5).then_ hE57
  replace hB6 := hB6.ext hE57
  replace hB7 := hB7.ext hE57
  replace hB8 := hB8.ext hE57
  generalize ((findP P cls).getD zeroC).methods = ms at hsm hms
  have hml := hsm.len
  have hsm7 := hsm.ext MthR.mono (hE0.then_ hE7)
  obtain ⟨Am, cm, rfl, hm1, hm2, hrm⟩ := hsm
  repeat (first | refine WL1 rfl ?_ | refine WLe rfl rfl ?_ | refine W_region ?_ | refine WL2 inf rfl ?_ | refine WL_ld inf rfl rfl rfl rfl (Blk.cell (by assumption) rfl) ?_)
  refine WL_call rfl rfl rfl rfl rfl enters_ixfMth rfl (ixfMth_any (cap := [.pointer (some ⟨g6, 0, none⟩), .pointer (some ⟨g7, 0, none⟩)]) (isM name d) hsm7 enters_method1 (fun W x cs hW _ _ hx => method1_any name d x cs g6 g7 W (MthR.mono _ _ _ _ _ _ hx hW.keeps fun _ h => h) (hB6.ext hW) (hB7.ext hW))) ?_
  rintro e w8 ⟨rfl, hE8⟩
  refine ⟨_, rfl, ?_⟩
  replace hB8 := hB8.ext hE8
  have hE8' := hE7.then_ hE8
  have hB10'' := hB10'.ext hE8
  repeat (first | refine WL1 rfl ?_ | refine WLe rfl rfl ?_ | refine W_region ?_ | refine WL2 inf rfl ?_ | refine WL_ld inf rfl rfl rfl rfl (Blk.cell (by assumption) rfl) ?_)
  refine W_cond rfl rfl (fun hb => ?_) (fun hb => ?_)
  · have h1 : ixI (isM name d) ms < 0 := of_decide_eq_true hb
    have hn : methD P cls name d = none := by
      rw [← hms, List.find?_eq_none]
      intro x hx hh
      have h2 := ixI_any (isM name d) ms
      have h3 : ms.any (isM name d) = true := List.any_eq_true.2 ⟨x, hx, hh⟩
      rw [h3] at h2
      have := of_decide_eq_true h2
      omega
    refine Wg rfl (W_region ?_)
    refine WL_bld rfl rfl rfl rfl bldM0 ?_
    refine WL_sta inf (cs' := zMv) rfl rfl rfl rfl zMv_one rfl hB8 rfl ?_
    rintro w9 hB9 u9
    repeat (first | refine WL1 rfl ?_ | refine WLe rfl rfl ?_ | refine W_region ?_ | refine WL2 inf rfl ?_ | refine WL_ld inf rfl rfl rfl rfl (Blk.cell (by assumption) rfl) ?_)
    refine W_retL [.agg zMv.toArray, .bool false] rfl rfl ⟨⟨_, rfl, loadVar_agg inf rfl hB9.cells⟩, rfl, trivial⟩ ⟨zMv, ?_, u9.ext hE8' (by omega), ?_⟩
    · rw [hn]; rfl
    · rw [hn]; exact zeroM_rep _ _
  · have h1 : ¬ ixI (isM name d) ms < 0 := of_decide_eq_false hb
    obtain ⟨k, hk⟩ : ∃ k, ms.findIdx? (isM name d) = some k := by
      cases h : ms.findIdx? (isM name d) with
      | none => unfold ixI at h1; rw [h] at h1; exact absurd (by decide) h1
      | some k => exact ⟨k, rfl⟩
    have hix : ixI (isM name d) ms = (k : Int) := by unfold ixI; rw [hk]
    obtain ⟨hlt, hp1, hp2⟩ := List.findIdx?_eq_some_iff_getElem.1 hk
    have hx : ms[k]? = some ms[k] := List.getElem?_eq_getElem hlt
    have hf : methD P cls name d = some ms[k] := by
      rw [← hms, List.find?_eq_some_iff_getElem]
      exact ⟨hp1, k, hlt, rfl, fun j hj => by have := hp2 j hj; simpa using this⟩
    generalize ms[k] = x at hx hf
    obtain ⟨a, cs, rfl, hz2, hmR, hcs⟩ := hrm.at_ hx
    have hmone := MthR.one _ _ _ _ hmR
    refine Wg rfl (W_region ?_)
    repeat (first | refine WL1 rfl ?_ | refine WLe rfl rfl ?_ | refine W_region ?_ | refine WL2 inf rfl ?_ | refine WL_ld inf rfl rfl rfl rfl (Blk.cell (by assumption) rfl) ?_)
    refine WL_ix inf rfl rfl rfl rfl rfl (fun _ => by rw [hix]; omega) ?_
    refine WL_lda inf (cs := cs) rfl rfl (by rw [hz2]; rfl) rfl (by rw [hix]; exact hcs.cells.ext (hE0.then_ hE8')) ?_
    refine WL_sta inf (cs' := cs) rfl rfl rfl (by rw [hz2]; rfl) hmone rfl hB8 (by rw [hz2]; rfl) ?_
    rintro w9 hB9 u9
    repeat (first | refine WL1 rfl ?_ | refine WLe rfl rfl ?_ | refine W_region ?_ | refine WL2 inf rfl ?_ | refine WL_ld inf rfl rfl rfl rfl (Blk.cell (by assumption) rfl) ?_)
    refine W_retL [.agg cs.toArray, .bool true] rfl rfl ⟨⟨_, rfl, loadVar_agg inf (by rw [hz2]; rfl) hB9.cells⟩, rfl, trivial⟩ ⟨cs, ?_, u9.ext hE8' (by omega), ?_⟩
    · rw [hf]; rfl
    · rw [hf]; exact hmR
theorem enters_above : Enters Tryz.prog 25 := enters_of Tryz.func25 (by kernel_rfl) rfl
theorem above_any (P : Option (List Cls)) (name : L) (pv : Value) (w : World) (hP : PrgV w pv P) (hl : Len name) (hf : FitP P) :
    Calls Tryz.prog 25 #[pv, .string (mkS name)] w fun e w' => ∃ v, e = .returned v ∧ Ext w w' ∧ OwnR w.heap.size 9 1 w' v ((aboveD P name).map strC) ∧ (∀ s ∈ aboveD P name, Len s) := by
  have hf2 := hf.2
  have hf1 := hf.1
  refine calls_W (args := [pv, .string (mkS name)]) Tryz.func25 rfl rfl rfl ?_
  refine Wg rfl (W_region ?_)
  repeat (first | refine WL1 rfl ?_ | refine WLe rfl rfl ?_ | refine W_region ?_ | refine WL2 inf rfl ?_ | refine WL_ld inf rfl rfl rfl rfl (Blk.cell (by assumption) rfl) ?_)
  refine WL_call rfl rfl rfl rfl rfl enters_supers rfl (supers_any P name pv _ hP hl hf.1) ?_
  rintro e w4 ⟨cv, rfl, hE4, hown, hcl⟩
  refine ⟨_, rfl, ?_⟩
  repeat (first | refine WL1 rfl ?_ | refine WLe rfl rfl ?_ | refine W_region ?_ | refine WL2 inf rfl ?_ | refine WL_ld inf rfl rfl rfl rfl (Blk.cell (by assumption) rfl) ?_)
  refine WL_call rfl rfl rfl rfl rfl enters_interfaces rfl (interfaces_any P name pv _ (hP.ext hE4) hl hf) ?_
  rintro e w5 ⟨iv2, rfl, hE5, hown2, hcl2⟩
  refine ⟨_, rfl, ?_⟩
  have hz4 := hE4.size
  have hz5 := hE5.size
  repeat (first | refine WL1 rfl ?_ | refine WLe rfl rfl ?_ | refine W_region ?_ | refine WL2 inf rfl ?_ | refine WL_ld inf rfl rfl rfl rfl (Blk.cell (by assumption) rfl) ?_)
  refine WL_appO ei rfl rfl rfl rfl rfl (hown.ext hE5) hown2 (str_one _) (by have h1 := chainD_len P name; have h2 := ifacesD_len P name; simp; omega) (by omega) ?_
  rintro v6 w6 hown6 hg6 hr6
  have hownc := hown.own
  have hEw6 : Ext w w6 := grown_ext hg6 (hE4.then_ hE5) fun b hb => (hownc b hb).1
  rw [← List.map_append] at hown6
  repeat (first | refine WL1 rfl ?_ | refine WLe rfl rfl ?_ | refine W_region ?_ | refine WL2 inf rfl ?_ | refine WL_ld inf rfl rfl rfl rfl (Blk.cell (by assumption) rfl) ?_)
  refine W_ret1 rfl rfl rfl ⟨v6, rfl, hEw6, hown6, fun s hs => ?_⟩
  rcases List.mem_append.1 hs with h | h
  · exact hcl s h
  · exact hcl2 s h
/-- Who has a method. -/
def resD (P : Option (List Cls)) (cls name d : L) : Option (L × Mth) := (aboveD P cls).findSome? fun o => (methD P o name d).map fun m => (o, m)
theorem findSome_at {α β : Type} {f : α → Option β} {xs : List α} {k : Nat} {x : α} {y : β} (hx : xs[k]? = some x) (hno : ∀ j z, j < k → xs[j]? = some z → f z = none) (hy : f x = some y) : xs.findSome? f = some y := by
  obtain ⟨hlt, he⟩ := List.getElem?_eq_some_iff.1 hx
  rw [List.findSome?_eq_some_iff]
  refine ⟨xs.take k, x, xs.drop (k + 1), ?_, hy, fun z hz => ?_⟩
  · rw [← he, ← List.drop_eq_getElem_cons hlt, List.take_append_drop]
  · obtain ⟨j, hj, rfl⟩ := List.getElem_of_mem hz
    rw [List.length_take] at hj
    rw [List.getElem_take]
    exact hno j _ (by omega) (List.getElem?_eq_getElem (by omega))
theorem findSome_no {α β : Type} {f : α → Option β} {xs : List α} (hno : ∀ j z, j < xs.length → xs[j]? = some z → f z = none) : xs.findSome? f = none := by
  rw [List.findSome?_eq_none_iff]
  intro x hx
  obtain ⟨j, hj, rfl⟩ := List.getElem_of_mem hx
  exact hno j _ hj (List.getElem?_eq_getElem hj)
def ownerR (r : Option (L × Mth)) : L := (r.map (·.1)).getD []
def mthR (r : Option (L × Mth)) : Mth := (r.map (·.2)).getD zeroM
theorem enters_rmethod : Enters Tryz.prog 28 := enters_of Tryz.func28 (by kernel_rfl) rfl
set_option maxRecDepth 100000 in
set_option maxHeartbeats 4000000 in
theorem rmethod_any (P : Option (List Cls)) (cls name d : L) (pv : Value) (w0 w : World) (hP : PrgV w0 pv P) (hE0 : Ext w0 w) (hl : Len cls) (hf : FitP P) :
    Calls Tryz.prog 28 #[pv, .string (mkS cls), .string (mkS name), .string (mkS d)] w fun e w' => ∃ cells, e = .returned (.tuple #[.string (mkS (ownerR (resD P cls name d))), .agg cells.toArray, .bool (resD P cls name d).isSome]) ∧ Ext w w' ∧ MthR Any_ w0 (mthR (resD P cls name d)) cells := by
  refine calls_W (args := [pv, .string (mkS cls), .string (mkS name), .string (mkS d)]) Tryz.func28 rfl rfl rfl ?_
  refine Wg rfl (W_region ?_)
  refine WL1 rfl ?_
  refine WL_alloc inf (cs := zMv) rfl rfl rfl rfl rfl ?_
  rintro g9 w1 hg9 hB9 hE1
  have z1 := hE1.size
  repeat (first | refine WL1 rfl ?_ | refine WLe rfl rfl ?_ | refine W_region ?_ | refine WL2 inf rfl ?_ | refine WL_ld inf rfl rfl rfl rfl (Blk.cell (by assumption) rfl) ?_)
  refine W_scope 0 (fun x : L × Mth × List Value => [(8, [], .string (mkS x.1)), (9, [], .pointer (some ⟨g9, 0, none⟩))])
    (fun x W => Ext w W ∧ Blk W g9 33 x.2.2 ∧ x.2.2.length = 8 ∧ resD P cls name d = some (x.1, x.2.1) ∧ MthR Any_ w0 x.2.1 x.2.2) (fun _ => 0) rfl ?_ ?_
  · rintro ⟨o, m, cells⟩ W ⟨hE, hB, hz, hD, hR⟩
    dsimp only at hB hz hD hR ⊢
    have hone := MthR.one _ _ _ _ hR
    refine Wg rfl ?_
    have hBd : Blk W.drew g9 33 cells := hB
    refine W_draws (fun W' => Ext W.drew W') [3] mixed_ ?_
    refine WDp 0 rfl (by first | exact stepV_yl _ rfl | exact stepI_yl _ inf rfl) (by kernel_rfl) ?_
    refine WDq 1 rfl (yl_lda (cs := cells) inf rfl rfl (by rw [hz]; rfl) rfl (fun W' hS => (hBd.ext hS).cells)) (Ext.rfl' _) (by kernel_rfl) ?_
    refine WDp 2 rfl (by first | exact stepV_yl _ rfl | exact stepI_yl _ inf rfl) (by kernel_rfl) ?_
    refine WDl 3 rfl (by kernel_rfl) (WL_sta inf (cs' := cells) rfl rfl rfl (by rw [hz]; rfl) hone rfl hBd rfl ?_)
    rintro w5 hB5 u5
    refine WDd (by simp) ?_
    refine WDp 4 rfl (by first | exact stepV_yl _ rfl | exact stepI_yl _ inf rfl) (by kernel_rfl) ?_
    refine WDe (by kernel_rfl) ?_
    have hE5 : Ext w w5 := u5.ext (hE.then_ (Ext.drew_ W)) (by omega)
    repeat (first | refine WL1 rfl ?_ | refine WLe rfl rfl ?_ | refine W_region ?_ | refine WL2 inf rfl ?_ | refine WL_ld inf rfl rfl rfl rfl (Blk.cell (by assumption) rfl) ?_)
    refine W_retL [.string (mkS o), .agg cells.toArray, .bool true] rfl rfl ⟨rfl, ⟨_, rfl, loadVar_agg inf (by rw [hz]; rfl) hB5.cells⟩, rfl, trivial⟩ ⟨cells, ?_, hE5, ?_⟩
    · rw [hD]; rfl
    · rw [hD]; exact hR
  · intro _
    refine Wg rfl (W_region ?_)
    repeat (first | refine WL1 rfl ?_ | refine WLe rfl rfl ?_ | refine W_region ?_ | refine WL2 inf rfl ?_ | refine WL_ld inf rfl rfl rfl rfl (Blk.cell (by assumption) rfl) ?_)
    refine WL_call rfl rfl rfl rfl rfl enters_above rfl (above_any P cls pv _ (hP.ext (hE0.then_ hE1)) hl hf) ?_
    rintro e w4 ⟨cv, rfl, hE4, hown, hcl⟩
    refine ⟨_, rfl, ?_⟩
    have hal : (aboveD P cls).length ≤ 9223372036854775807 := (hown.sl (R := StrR) (B := Any_) (strEach _ _ _ hcl) fun _ _ => trivial).len
    obtain ⟨A, cp, rfl⟩ := hown.val
    rw [List.length_map] at *
    repeat (first | refine WL1 rfl ?_ | refine WLe rfl rfl ?_ | refine W_region ?_ | refine WL2 inf rfl ?_ | refine WL_ld inf rfl rfl rfl rfl (Blk.cell (by assumption) rfl) ?_)
    refine W_loop (fun k : Nat => [(0, [], pv), (2, [], .string (mkS name)), (3, [], .string (mkS d)), (9, [], .pointer (some ⟨g9, 0, none⟩)), (13, [], .slice A (aboveD P cls).length cp), (14, [], .int .i64 (aboveD P cls).length), (15, [], .int .i64 k)])
      (fun k W => k ≤ (aboveD P cls).length ∧ Ext w W ∧ (∃ cs, Blk W g9 33 cs ∧ cs.length = 8) ∧ OwnR w1.heap.size 9 1 W (.slice A (aboveD P cls).length cp) ((aboveD P cls).map strC) ∧ ∀ i s, i < k → (aboveD P cls)[i]? = some s → methD P s name d = none)
      (fun k => (aboveD P cls).length - k) 0 (fun _ => rfl) ⟨rfl, rfl, rfl, rfl, rfl, rfl, rfl, trivial⟩ ⟨Nat.zero_le _, hE1.then_ hE4, ⟨_, hB9.ext hE4, rfl⟩, hown, fun i s h => absurd h (Nat.not_lt_zero i)⟩ ?_
    clear hown hB9 hE4
    rintro k W ⟨hk, hE, ⟨cs9, hB, hz9⟩, hown, hno⟩
    refine Wg rfl (W_region ?_)
    repeat (first | refine WL1 rfl ?_ | refine WLe rfl rfl ?_ | refine W_region ?_ | refine WL2 inf rfl ?_ | refine WL_ld inf rfl rfl rfl rfl (Blk.cell (by assumption) rfl) ?_)
    refine W_cond rfl rfl (fun hb => ?_) (fun hb => ?_)
    · have hlt : k < (aboveD P cls).length := by simpa using hb
      have hx : (aboveD P cls)[k]? = some (aboveD P cls)[k] := List.getElem?_eq_getElem hlt
      generalize (aboveD P cls)[k] = s at hx
      obtain ⟨g5, c', hv, hge, hgl, hcells⟩ := hown.cells (i := k) (cs := strC s) (by rw [List.getElem?_map, hx]; rfl)
      have hA : A = some ⟨g5, 0, none⟩ := congrArg (fun v => match v with | Value.slice A _ _ => A | _ => none) hv
      subst hA
      have hne := hown.ne hB rfl
      refine Wg rfl (W_region ?_)
      refine WL_ix inf rfl rfl rfl rfl rfl (fun _ => ⟨by omega, by omega⟩) ?_
      refine WL_ld inf rfl rfl rfl rfl (hcells.at_ (j := 0) rfl) ?_
      repeat (first | refine WL1 rfl ?_ | refine WLe rfl rfl ?_ | refine W_region ?_ | refine WL2 inf rfl ?_ | refine WL_ld inf rfl rfl rfl rfl (Blk.cell (by assumption) rfl) ?_)
      refine WL_call rfl rfl rfl rfl rfl enters_pmethod rfl (pmethod_at P s name d pv w0 _ hP (hE0.then_ hE)) ?_
      rintro e w5 ⟨cells, rfl, hE5, hR⟩
      refine ⟨_, rfl, ?_⟩
      have hz := hR.len
      have hone := MthR.one _ _ _ _ hR
      repeat (first | refine WL1 rfl ?_ | refine WLe rfl rfl ?_ | refine W_region ?_ | refine WL2 inf rfl ?_ | refine WL_ld inf rfl rfl rfl rfl (Blk.cell (by assumption) rfl) ?_)
      refine WL_sta inf (cs' := cells) rfl rfl rfl (by rw [hz]; rfl) hone rfl (hB.ext hE5) (by rw [hz9, hz]) ?_
      rintro w6 hB6 u6
      have hE6 : Ext w w6 := u6.ext (hE.then_ hE5) (by omega)
      repeat (first | refine WL1 rfl ?_ | refine WLe rfl rfl ?_ | refine W_region ?_ | refine WL2 inf rfl ?_ | refine WL_ld inf rfl rfl rfl rfl (Blk.cell (by assumption) rfl) ?_)
      refine W_cond rfl rfl (fun hc => ?_) (fun hc => ?_)
      · obtain ⟨m, hm⟩ := Option.isSome_iff_exists.1 (show (methD P s name d).isSome = true from hc)
        refine Wm rfl (s, m, cells) ⟨hE6, hB6, hz, ?_, ?_⟩ rfl ⟨rfl, rfl, trivial⟩
        · refine findSome_at hx (fun j z hj hz => ?_) ?_
          · rw [hno j z hj hz]; rfl
          · rw [hm]; rfl
        · rw [hm] at hR; exact hR
      · have hm : methD P s name d = none := by
          cases h : methD P s name d with
          | none => rfl
          | some m => rw [h] at hc; cases hc
        refine Wg rfl (W_region ?_)
        refine WL_add rfl rfl rfl rfl rfl rfl rfl (fun _ => by omega) ?_
        repeat (first | refine WL1 rfl ?_ | refine WLe rfl rfl ?_ | refine W_region ?_ | refine WL2 inf rfl ?_ | refine WL_ld inf rfl rfl rfl rfl (Blk.cell (by assumption) rfl) ?_)
        refine WLr rfl (k + 1) (by omega) ⟨hlt, hE6, ⟨cells, hB6, hz⟩, (hown.ext hE5).upd u6 fun e => hne e.symm, fun i y hi hy => ?_⟩ rfl ⟨rfl, rfl, rfl, rfl, rfl, rfl, rfl, trivial⟩
        rcases Nat.lt_or_eq_of_le (Nat.le_of_lt_succ hi) with h1 | rfl
        · exact hno i y h1 hy
        · rw [hx] at hy; cases hy; exact hm
    · have hk' : k = (aboveD P cls).length := by simp at hb; omega
      subst hk'
      have hD : resD P cls name d = none := findSome_no fun j z hj hz => by rw [hno j z hj hz]; rfl
      refine Wg rfl (W_region ?_)
      refine WL_bld rfl rfl rfl rfl bldM0 ?_
      repeat (first | refine WL1 rfl ?_ | refine WLe rfl rfl ?_ | refine W_region ?_ | refine WL2 inf rfl ?_ | refine WL_ld inf rfl rfl rfl rfl (Blk.cell (by assumption) rfl) ?_)
      refine WL_sta inf (cs' := zMv) rfl rfl rfl rfl zMv_one rfl hB (by rw [hz9]; rfl) ?_
      rintro w9 hB9 u9
      repeat (first | refine WL1 rfl ?_ | refine WLe rfl rfl ?_ | refine W_region ?_ | refine WL2 inf rfl ?_ | refine WL_ld inf rfl rfl rfl rfl (Blk.cell (by assumption) rfl) ?_)
      refine W_retL [.string (mkS []), .agg zMv.toArray, .bool false] rfl rfl ⟨rfl, ⟨_, rfl, loadVar_agg inf rfl hB9.cells⟩, rfl, trivial⟩ ⟨zMv, ?_, u9.ext hE (by omega), ?_⟩
      · rw [hD]; rfl
      · rw [hD]; exact zeroM_rep _ _
theorem enters_dispatch : Enters Tryz.prog 11 := enters_of Tryz.func11 (by kernel_rfl) rfl
/-- What an object does: who has the method, and the method. -/
def dispD (P : Option (List Cls)) (cls name d : L) : Option (L × Mth) := if P.isNone then none else (hasD P cls name d).map fun o => (o, (methD P o name d).getD zeroM)
theorem PrgV.isNil {w : World} {pv : Value} {P : Option (List Cls)} (h : PrgV w pv P) : ∃ a, pv = .pointer a ∧ a.isNone = P.isNone := by
  cases P with
  | none => exact ⟨none, h, rfl⟩
  | some cs => obtain ⟨q, h1, _⟩ := h; exact ⟨_, h1, rfl⟩
end Go.Proofs.YtoalmjciodlkaaaGreat
