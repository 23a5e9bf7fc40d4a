/- slices.Clone at the program's element types. -/
import Derived.Test.YtljcmmmajjmpoaaGreatDoorBuiltinb
import Derived.Laws.Cover3
namespace Go.Proofs.YtljcmmmajjmpoaaGreatDoor
open Go.RowKit Sp

section
variable {P : Program} {n : Nat} {fr : Fr} {w : World} {k : Kt} {ops : Array Oper} {rest : List Oper}
/-- A slice against nil. -/
theorem WL_isnil (I : Info P) {p : List (Nat × Bool)} {d : Nat} {x : Operand} {t yt ty : TypeId} {pos : String} {aft : Array Edge} {gd : Option (Nat × Bool)} {A : Option Addr} {m c : Nat}
    (hp : pathOf ops fr ⟨some d, .binOp .eql t x (.const (.slice none 0 0)) yt, ty, pos, aft, gd⟩ = some p) (hx : gv fr p x = some (.slice A m c)) (ht : I.sliT t = true) (hck : (decide (d < n) && fresh d fr && freshP d p) = true)
    (h : WL P n ops rest ((d, p, .bool A.isNone) :: fr) w k) : WL P n ops (⟨some d, .binOp .eql t x (.const (.slice none 0 0)) yt, ty, pos, aft, gd⟩ :: rest) fr w k := by
  simp only [Bool.and_eq_true] at hck
  obtain ⟨h1, h2⟩ := gv_ok hx
  obtain ⟨e, he⟩ := I.sliT_ok t ht
  refine WL_val hp rfl (by simpa [Op.operands] using okO_two h1 (y := .const (.slice none 0 0)) rfl) rfl hck.1.1 hck.1.2 hck.2 (fun _ => ?_) h
  have h3 := run_equal_slice_nil (P := P) w t e A m c he
  have h4 : (binOp .eql t (.slice A m c) (.slice none 0 0)).run P w = .ok (.bool A.isNone) w := by
    simp only [binOp]
    simp [h3]
  simp [execOp, h2, show evG fr (.const (.slice none 0 0)) = .slice none 0 0 from rfl, eqGuard, h4]
end
/-- Each cell of it is one value. -/
def One {α : Type} (R : Rep α) : Prop := ∀ B w x cs, R B w x cs → ∀ u ∈ cs, u.oneCell' = true
theorem StrR.one : One StrR := fun _ _ x cs ⟨h, _⟩ => by subst h; simp [Value.oneCell']
theorem InsR.one : One InsR := fun _ _ x cs ⟨h, _⟩ => by subst h; exact Ins.one x
theorem HndR.one : One HndR := fun _ _ x cs ⟨h, _⟩ => by subst h; exact Hnd.one x
theorem FldR.one : One FldR := fun _ _ x cs ⟨h, _⟩ => by subst h; exact Fld.one x
theorem MthR.one : One MthR := fun _ _ x cs ⟨c, h, e, _, _, h1, h2⟩ => by subst e; exact Mth.one x h1.one h2.one
theorem ClsR.one : One ClsR := fun _ _ x cs ⟨i, f, m, e, _, _, h1, h2, h3⟩ => by subst e; exact Cls.one x h1.one h2.one h3.one
theorem row_css {α : Type} {R : Rep α} {z : Nat} {B : Nat → Prop} {w : World} {a : Addr} : ∀ (xs : List α) (o : Nat), (∀ i x, xs[i]? = some x → ∃ cs, cs.length = z ∧ R B w x cs ∧ CellsB B w (a.add (o + i * z)) cs) →
    ∃ css : List (List Value), Each (R B w) xs css ∧ (∀ cs ∈ css, cs.length = z) ∧ ∀ j v, css.flatten[j]? = some v → w.cell? (a.add (o + j)) = some v
  | [], _, _ => ⟨[], trivial, by simp, by simp⟩
  | x :: r, o, h => by
    obtain ⟨cs, h1, h2, h3⟩ := h 0 x rfl
    obtain ⟨css, k1, k2, k3⟩ := row_css r (o + z) (fun i y hy => by
      obtain ⟨cs, h1, h2, h3⟩ := h (i + 1) y (by simpa using hy)
      exact ⟨cs, h1, h2, by rw [Nat.add_mul] at h3; rw [show o + z + i * z = o + (i * z + 1 * z) by omega]; exact h3⟩)
    refine ⟨cs :: css, ⟨h2, k1⟩, fun c hc => ?_, fun j v hj => ?_⟩
    · rcases List.mem_cons.1 hc with rfl | hc
      · exact h1
      · exact k2 c hc
    · rw [List.flatten_cons, List.getElem?_append] at hj
      split at hj
      · have := h3.cells j v hj
        rw [add_add] at this
        simpa using this
      · have := k3 _ v hj
        rw [show o + z + (j - cs.length) = o + j by omega] at this
        exact this
theorem Row.css {α : Type} {R : Rep α} {z : Nat} {B : Nat → Prop} {w : World} {a : Addr} {xs : List α} (h : Row R z B w (some a) xs) : ∃ css : List (List Value), Each (R B w) xs css ∧ (∀ cs ∈ css, cs.length = z) ∧ CellsAt w a css.flatten := by
  obtain ⟨css, h1, h2, h3⟩ := row_css (a := a) xs 0 (fun i x hx => by simpa using h i x hx)
  exact ⟨css, h1, h2, fun j v hj => by simpa using h3 j v hj⟩
theorem Each.one {α : Type} {R : Rep α} (hO : One R) {B : Nat → Prop} {w : World} : ∀ {xs : List α} {css : List (List Value)}, Each (R B w) xs css → ∀ cs ∈ css, ∀ u ∈ cs, u.oneCell' = true
  | [], [], _, cs, hcs => by cases hcs
  | x :: r, c :: s, h, cs, hcs => by
    rcases List.mem_cons.1 hcs with rfl | hcs
    · exact hO _ _ _ _ h.1
    · exact Each.one hO h.2 cs hcs

theorem enters_cloneStr : Enters Tryz.prog 89 := enters_of Tryz.func89 (by kernel_rfl) rfl
theorem cloneStr_any {B : Nat → Prop} {w : World} {v : Value} {xs : List L} (hsl : Sl StrR 1 B w v xs) (hle : xs.length ≤ 549755813888) :
    Calls Tryz.prog 89 #[v] w fun e w1 => ∃ v1 css, e = .returned v1 ∧ Ext w w1 ∧ OwnR w.heap.size 9 1 w1 v1 css ∧ Each (StrR B w1) xs css := by
  obtain ⟨A, c, rfl, hlc, _, hrow⟩ := hsl
  refine calls_W (args := [.slice A xs.length c]) Tryz.func89 rfl rfl rfl ?_
  refine Wg rfl (W_region ?_)
  repeat (first | refine WL1 rfl ?_ | refine WLe rfl rfl ?_ | refine W_region ?_ | refine WL2 inf rfl ?_ | refine WL_ld inf rfl rfl rfl rfl (Blk.cell (by assumption) rfl) ?_)
  refine WL_isnil inf rfl rfl rfl rfl ?_
  repeat (first | refine WL1 rfl ?_ | refine WLe rfl rfl ?_ | refine W_region ?_ | refine WL2 inf rfl ?_ | refine WL_ld inf rfl rfl rfl rfl (Blk.cell (by assumption) rfl) ?_)
  refine W_cond rfl rfl (fun hb => ?_) (fun hb => ?_)
  · have hA : A = none := by simpa using hb
    subst hA
    have hx : xs = [] := hrow
    subst hx
    refine Wg rfl (W_region ?_)
    repeat (first | refine WL1 rfl ?_ | refine WLe rfl rfl ?_ | refine W_region ?_ | refine WL2 inf rfl ?_ | refine WL_ld inf rfl rfl rfl rfl (Blk.cell (by assumption) rfl) ?_)
    exact W_ret1 rfl rfl rfl ⟨_, [], rfl, Ext.rfl' w, OwnR.nil _ _ _ _, trivial⟩
  · obtain ⟨a, rfl⟩ : ∃ a, A = some a := by cases A with
      | none => cases hb
      | some a => exact ⟨a, rfl⟩
    obtain ⟨css, h1, h2, h3⟩ := hrow.css
    refine Wg rfl (W_region ?_)
    refine WL_bsl (cs := []) rfl rfl rfl rfl rfl (bs40_0 _) ?_
    rintro g w1 rfl hB hE
    repeat (first | refine WL1 rfl ?_ | refine WLe rfl rfl ?_ | refine W_region ?_ | refine WL2 inf rfl ?_ | refine WL_ld inf rfl rfl rfl rfl (Blk.cell (by assumption) rfl) ?_)
    refine WL_app ei (ncs := css) rfl rfl rfl rfl rfl rfl (OwnR.of_blk (base := w.heap.size) (z := 1) (css := []) hB (by simp) rfl (Nat.le_refl _) (by omega)) (h3.ext hE) h1.len.symm h2 (Each.one StrR.one h1) (by simp; omega) hE.size ?_
    rintro v2 w2 ho hg hr
    have hE2 : Ext w w2 := grown_ext hg hE fun b hb => by cases hb; exact Nat.le_refl _
    repeat (first | refine WL1 rfl ?_ | refine WLe rfl rfl ?_ | refine W_region ?_ | refine WL2 inf rfl ?_ | refine WL_ld inf rfl rfl rfl rfl (Blk.cell (by assumption) rfl) ?_)
    exact W_ret1 rfl rfl rfl ⟨v2, css, rfl, hE2, by simpa using ho, h1.imp fun x cs h => StrR.mono _ _ _ _ _ _ h hE2.keeps fun _ h => h⟩

theorem enters_cloneIns : Enters Tryz.prog 125 := enters_of Tryz.func125 (by kernel_rfl) rfl
theorem cloneIns_any {B : Nat → Prop} {w : World} {v : Value} {xs : List Ins} (hsl : Sl InsR 6 B w v xs) (hle : xs.length ≤ 549755813888) :
    Calls Tryz.prog 125 #[v] w fun e w1 => ∃ v1 css, e = .returned v1 ∧ Ext w w1 ∧ OwnR w.heap.size 119 6 w1 v1 css ∧ Each (InsR B w1) xs css := by
  obtain ⟨A, c, rfl, hlc, _, hrow⟩ := hsl
  refine calls_W (args := [.slice A xs.length c]) Tryz.func125 rfl rfl rfl ?_
  refine Wg rfl (W_region ?_)
  repeat (first | refine WL1 rfl ?_ | refine WLe rfl rfl ?_ | refine W_region ?_ | refine WL2 inf rfl ?_ | refine WL_ld inf rfl rfl rfl rfl (Blk.cell (by assumption) rfl) ?_)
  refine WL_isnil inf rfl rfl rfl rfl ?_
  repeat (first | refine WL1 rfl ?_ | refine WLe rfl rfl ?_ | refine W_region ?_ | refine WL2 inf rfl ?_ | refine WL_ld inf rfl rfl rfl rfl (Blk.cell (by assumption) rfl) ?_)
  refine W_cond rfl rfl (fun hb => ?_) (fun hb => ?_)
  · have hA : A = none := by simpa using hb
    subst hA
    have hx : xs = [] := hrow
    subst hx
    refine Wg rfl (W_region ?_)
    repeat (first | refine WL1 rfl ?_ | refine WLe rfl rfl ?_ | refine W_region ?_ | refine WL2 inf rfl ?_ | refine WL_ld inf rfl rfl rfl rfl (Blk.cell (by assumption) rfl) ?_)
    exact W_ret1 rfl rfl rfl ⟨_, [], rfl, Ext.rfl' w, OwnR.nil _ _ _ _, trivial⟩
  · obtain ⟨a, rfl⟩ : ∃ a, A = some a := by cases A with
      | none => cases hb
      | some a => exact ⟨a, rfl⟩
    obtain ⟨css, h1, h2, h3⟩ := hrow.css
    refine Wg rfl (W_region ?_)
    refine WL_bsl (cs := []) rfl rfl rfl rfl rfl (bs83_0 _) ?_
    rintro g w1 rfl hB hE
    repeat (first | refine WL1 rfl ?_ | refine WLe rfl rfl ?_ | refine W_region ?_ | refine WL2 inf rfl ?_ | refine WL_ld inf rfl rfl rfl rfl (Blk.cell (by assumption) rfl) ?_)
    refine WL_app ei (ncs := css) rfl rfl rfl rfl rfl rfl (OwnR.of_blk (base := w.heap.size) (z := 6) (css := []) hB (by simp) rfl (Nat.le_refl _) (by omega)) (h3.ext hE) h1.len.symm h2 (Each.one InsR.one h1) (by simp; omega) hE.size ?_
    rintro v2 w2 ho hg hr
    have hE2 : Ext w w2 := grown_ext hg hE fun b hb => by cases hb; exact Nat.le_refl _
    repeat (first | refine WL1 rfl ?_ | refine WLe rfl rfl ?_ | refine W_region ?_ | refine WL2 inf rfl ?_ | refine WL_ld inf rfl rfl rfl rfl (Blk.cell (by assumption) rfl) ?_)
    exact W_ret1 rfl rfl rfl ⟨v2, css, rfl, hE2, by simpa using ho, h1.imp fun x cs h => InsR.mono _ _ _ _ _ _ h hE2.keeps fun _ h => h⟩

theorem enters_cloneHnd : Enters Tryz.prog 126 := enters_of Tryz.func126 (by kernel_rfl) rfl
theorem cloneHnd_any {B : Nat → Prop} {w : World} {v : Value} {xs : List Hnd} (hsl : Sl HndR 4 B w v xs) (hle : xs.length ≤ 549755813888) :
    Calls Tryz.prog 126 #[v] w fun e w1 => ∃ v1 css, e = .returned v1 ∧ Ext w w1 ∧ OwnR w.heap.size 121 4 w1 v1 css ∧ Each (HndR B w1) xs css := by
  obtain ⟨A, c, rfl, hlc, _, hrow⟩ := hsl
  refine calls_W (args := [.slice A xs.length c]) Tryz.func126 rfl rfl rfl ?_
  refine Wg rfl (W_region ?_)
  repeat (first | refine WL1 rfl ?_ | refine WLe rfl rfl ?_ | refine W_region ?_ | refine WL2 inf rfl ?_ | refine WL_ld inf rfl rfl rfl rfl (Blk.cell (by assumption) rfl) ?_)
  refine WL_isnil inf rfl rfl rfl rfl ?_
  repeat (first | refine WL1 rfl ?_ | refine WLe rfl rfl ?_ | refine W_region ?_ | refine WL2 inf rfl ?_ | refine WL_ld inf rfl rfl rfl rfl (Blk.cell (by assumption) rfl) ?_)
  refine W_cond rfl rfl (fun hb => ?_) (fun hb => ?_)
  · have hA : A = none := by simpa using hb
    subst hA
    have hx : xs = [] := hrow
    subst hx
    refine Wg rfl (W_region ?_)
    repeat (first | refine WL1 rfl ?_ | refine WLe rfl rfl ?_ | refine W_region ?_ | refine WL2 inf rfl ?_ | refine WL_ld inf rfl rfl rfl rfl (Blk.cell (by assumption) rfl) ?_)
    exact W_ret1 rfl rfl rfl ⟨_, [], rfl, Ext.rfl' w, OwnR.nil _ _ _ _, trivial⟩
  · obtain ⟨a, rfl⟩ : ∃ a, A = some a := by cases A with
      | none => cases hb
      | some a => exact ⟨a, rfl⟩
    obtain ⟨css, h1, h2, h3⟩ := hrow.css
    refine Wg rfl (W_region ?_)
    refine WL_bsl (cs := []) rfl rfl rfl rfl rfl (bs84_0 _) ?_
    rintro g w1 rfl hB hE
    repeat (first | refine WL1 rfl ?_ | refine WLe rfl rfl ?_ | refine W_region ?_ | refine WL2 inf rfl ?_ | refine WL_ld inf rfl rfl rfl rfl (Blk.cell (by assumption) rfl) ?_)
    refine WL_app ei (ncs := css) rfl rfl rfl rfl rfl rfl (OwnR.of_blk (base := w.heap.size) (z := 4) (css := []) hB (by simp) rfl (Nat.le_refl _) (by omega)) (h3.ext hE) h1.len.symm h2 (Each.one HndR.one h1) (by simp; omega) hE.size ?_
    rintro v2 w2 ho hg hr
    have hE2 : Ext w w2 := grown_ext hg hE fun b hb => by cases hb; exact Nat.le_refl _
    repeat (first | refine WL1 rfl ?_ | refine WLe rfl rfl ?_ | refine W_region ?_ | refine WL2 inf rfl ?_ | refine WL_ld inf rfl rfl rfl rfl (Blk.cell (by assumption) rfl) ?_)
    exact W_ret1 rfl rfl rfl ⟨v2, css, rfl, hE2, by simpa using ho, h1.imp fun x cs h => HndR.mono _ _ _ _ _ _ h hE2.keeps fun _ h => h⟩

theorem enters_cloneFld : Enters Tryz.prog 90 := enters_of Tryz.func90 (by kernel_rfl) rfl
theorem cloneFld_any {B : Nat → Prop} {w : World} {v : Value} {xs : List Fld} (hsl : Sl FldR 3 B w v xs) (hle : xs.length ≤ 549755813888) :
    Calls Tryz.prog 90 #[v] w fun e w1 => ∃ v1 css, e = .returned v1 ∧ Ext w w1 ∧ OwnR w.heap.size 81 3 w1 v1 css ∧ Each (FldR B w1) xs css := by
  obtain ⟨A, c, rfl, hlc, _, hrow⟩ := hsl
  refine calls_W (args := [.slice A xs.length c]) Tryz.func90 rfl rfl rfl ?_
  refine Wg rfl (W_region ?_)
  repeat (first | refine WL1 rfl ?_ | refine WLe rfl rfl ?_ | refine W_region ?_ | refine WL2 inf rfl ?_ | refine WL_ld inf rfl rfl rfl rfl (Blk.cell (by assumption) rfl) ?_)
  refine WL_isnil inf rfl rfl rfl rfl ?_
  repeat (first | refine WL1 rfl ?_ | refine WLe rfl rfl ?_ | refine W_region ?_ | refine WL2 inf rfl ?_ | refine WL_ld inf rfl rfl rfl rfl (Blk.cell (by assumption) rfl) ?_)
  refine W_cond rfl rfl (fun hb => ?_) (fun hb => ?_)
  · have hA : A = none := by simpa using hb
    subst hA
    have hx : xs = [] := hrow
    subst hx
    refine Wg rfl (W_region ?_)
    repeat (first | refine WL1 rfl ?_ | refine WLe rfl rfl ?_ | refine W_region ?_ | refine WL2 inf rfl ?_ | refine WL_ld inf rfl rfl rfl rfl (Blk.cell (by assumption) rfl) ?_)
    exact W_ret1 rfl rfl rfl ⟨_, [], rfl, Ext.rfl' w, OwnR.nil _ _ _ _, trivial⟩
  · obtain ⟨a, rfl⟩ : ∃ a, A = some a := by cases A with
      | none => cases hb
      | some a => exact ⟨a, rfl⟩
    obtain ⟨css, h1, h2, h3⟩ := hrow.css
    refine Wg rfl (W_region ?_)
    refine WL_bsl (cs := []) rfl rfl rfl rfl rfl (bs41_0 _) ?_
    rintro g w1 rfl hB hE
    repeat (first | refine WL1 rfl ?_ | refine WLe rfl rfl ?_ | refine W_region ?_ | refine WL2 inf rfl ?_ | refine WL_ld inf rfl rfl rfl rfl (Blk.cell (by assumption) rfl) ?_)
    refine WL_app ei (ncs := css) rfl rfl rfl rfl rfl rfl (OwnR.of_blk (base := w.heap.size) (z := 3) (css := []) hB (by simp) rfl (Nat.le_refl _) (by omega)) (h3.ext hE) h1.len.symm h2 (Each.one FldR.one h1) (by simp; omega) hE.size ?_
    rintro v2 w2 ho hg hr
    have hE2 : Ext w w2 := grown_ext hg hE fun b hb => by cases hb; exact Nat.le_refl _
    repeat (first | refine WL1 rfl ?_ | refine WLe rfl rfl ?_ | refine W_region ?_ | refine WL2 inf rfl ?_ | refine WL_ld inf rfl rfl rfl rfl (Blk.cell (by assumption) rfl) ?_)
    exact W_ret1 rfl rfl rfl ⟨v2, css, rfl, hE2, by simpa using ho, h1.imp fun x cs h => FldR.mono _ _ _ _ _ _ h hE2.keeps fun _ h => h⟩

theorem enters_cloneMth : Enters Tryz.prog 91 := enters_of Tryz.func91 (by kernel_rfl) rfl
theorem cloneMth_any {B : Nat → Prop} {w : World} {v : Value} {xs : List Mth} (hsl : Sl MthR 8 B w v xs) (hle : xs.length ≤ 549755813888) :
    Calls Tryz.prog 91 #[v] w fun e w1 => ∃ v1 css, e = .returned v1 ∧ Ext w w1 ∧ OwnR w.heap.size 86 8 w1 v1 css ∧ Each (MthR B w1) xs css := by
  obtain ⟨A, c, rfl, hlc, _, hrow⟩ := hsl
  refine calls_W (args := [.slice A xs.length c]) Tryz.func91 rfl rfl rfl ?_
  refine Wg rfl (W_region ?_)
  repeat (first | refine WL1 rfl ?_ | refine WLe rfl rfl ?_ | refine W_region ?_ | refine WL2 inf rfl ?_ | refine WL_ld inf rfl rfl rfl rfl (Blk.cell (by assumption) rfl) ?_)
  refine WL_isnil inf rfl rfl rfl rfl ?_
  repeat (first | refine WL1 rfl ?_ | refine WLe rfl rfl ?_ | refine W_region ?_ | refine WL2 inf rfl ?_ | refine WL_ld inf rfl rfl rfl rfl (Blk.cell (by assumption) rfl) ?_)
  refine W_cond rfl rfl (fun hb => ?_) (fun hb => ?_)
  · have hA : A = none := by simpa using hb
    subst hA
    have hx : xs = [] := hrow
    subst hx
    refine Wg rfl (W_region ?_)
    repeat (first | refine WL1 rfl ?_ | refine WLe rfl rfl ?_ | refine W_region ?_ | refine WL2 inf rfl ?_ | refine WL_ld inf rfl rfl rfl rfl (Blk.cell (by assumption) rfl) ?_)
    exact W_ret1 rfl rfl rfl ⟨_, [], rfl, Ext.rfl' w, OwnR.nil _ _ _ _, trivial⟩
  · obtain ⟨a, rfl⟩ : ∃ a, A = some a := by cases A with
      | none => cases hb
      | some a => exact ⟨a, rfl⟩
    obtain ⟨css, h1, h2, h3⟩ := hrow.css
    refine Wg rfl (W_region ?_)
    refine WL_bsl (cs := []) rfl rfl rfl rfl rfl (bs42_0 _) ?_
    rintro g w1 rfl hB hE
    repeat (first | refine WL1 rfl ?_ | refine WLe rfl rfl ?_ | refine W_region ?_ | refine WL2 inf rfl ?_ | refine WL_ld inf rfl rfl rfl rfl (Blk.cell (by assumption) rfl) ?_)
    refine WL_app ei (ncs := css) rfl rfl rfl rfl rfl rfl (OwnR.of_blk (base := w.heap.size) (z := 8) (css := []) hB (by simp) rfl (Nat.le_refl _) (by omega)) (h3.ext hE) h1.len.symm h2 (Each.one MthR.one h1) (by simp; omega) hE.size ?_
    rintro v2 w2 ho hg hr
    have hE2 : Ext w w2 := grown_ext hg hE fun b hb => by cases hb; exact Nat.le_refl _
    repeat (first | refine WL1 rfl ?_ | refine WLe rfl rfl ?_ | refine W_region ?_ | refine WL2 inf rfl ?_ | refine WL_ld inf rfl rfl rfl rfl (Blk.cell (by assumption) rfl) ?_)
    exact W_ret1 rfl rfl rfl ⟨v2, css, rfl, hE2, by simpa using ho, h1.imp fun x cs h => MthR.mono _ _ _ _ _ _ h hE2.keeps fun _ h => h⟩

end Go.Proofs.YtljcmmmajjmpoaaGreatDoor
