/- link: the small rules, and what they ask of members. -/
import Derived.Test.YtljcmmmajjmpoaaGreatDoorSpreadb
namespace Go.Proofs.YtljcmmmajjmpoaaGreatDoor
open Go.RowKit Sp

section
variable {P : Program} {n : Nat} {fr : Fr} {w : World} {k : Kt} {ops : Array Oper} {rest : List Oper}
/-- A call under a guard, of a function that makes memory and yields what is said. -/
theorem WL_callg {p : List (Nat × Bool)} {d f : Nat} {args : List Operand} {ts : Array TypeId} {ty : TypeId} {pos : String} {aft : Array Edge} {gd : Option (Nat × Bool)} {vs : List Value} {v : Value}
    (hp : pathOf ops fr ⟨some d, .call { callee := .value (.func f), args := args.toArray, argTypes := ts }, ty, pos, aft, gd⟩ = some p) (hok : okO fr p args = true)
    (hck : (decide (d < n) && fresh d fr && freshP d p) = true) (hen : Enters P f) (hvs : args.map (evG fr) = vs) (hc : satB fr p = true → Calls P f vs.toArray w fun e w' => e = .returned v ∧ Ext w w')
    (h : ∀ w', Ext w w' → WL P n ops rest ((d, p, v) :: fr) w' k) :
    WL P n ops (⟨some d, .call { callee := .value (.func f), args := args.toArray, argTypes := ts }, ty, pos, aft, gd⟩ :: rest) fr w k := fun a ha => by
  simp only [Bool.and_eq_true] at hck
  refine wpList_step fun K hK => ?_
  rw [wanted_path ha hp]
  cases hsat : satB fr p
  · rw [if_neg (by simp)]
    exact hK _ _ (h w (Ext.rfl' w) _ (ha.put (by simpa using hck.1.1) hck.1.2 hck.2 (by simp [hsat])))
  · rw [if_pos rfl]
    unfold Oper.wp
    have he : (execOp a.eval ⟨some d, .call { callee := .value (.func f), args := args.toArray, argTypes := ts }, ty, pos, aft, gd⟩).run P w = .ok (.enter f vs.toArray) w := by
      have hm : args.map a.eval = vs := by
        rw [← hvs]
        exact List.map_congr_left fun x hx => ha.eval hsat _ hok x hx
      simp only [execOp, resolve, Sem.run_bind, List.map_toArray, hm]
      simp [Deferred.ofValue, Act.eval, invoke, hen _ w]
    rw [he, Oper.upon_enter]
    refine (hc hsat).mono fun e w' hR => ?_
    obtain ⟨rfl, hE⟩ := hR
    exact hK _ _ (h w' hE _ (ha.put (by simpa using hck.1.1) hck.1.2 hck.2 (by simp [hsat])))
end
theorem MthR.len {B : Nat → Prop} {w : World} {c : Mth} {cs : List Value} (h : MthR B w c cs) : cs.length = 8 := by obtain ⟨i, f, rfl, _⟩ := h; rfl
theorem enters_whole1 : Enters Tryz.prog 102 := enters_of Tryz.func102 (by kernel_rfl) rfl
theorem whole1_any {B : Nat → Prop} (m : Mth) (cs : List Value) (w : World) (hm : MthR B w m cs) : Calls Tryz.prog 102 #[.agg cs.toArray] w fun e w' => e = .returned (.bool m.abst) ∧ Ext w w' := by
  obtain ⟨c, h, rfl, -⟩ := hm
  refine calls_W (args := [.agg (Mth.cs m c h).toArray]) Tryz.func102 rfl rfl rfl ?_
  refine Wg rfl (W_region ?_)
  refine WL_box (cs := Mth.cs m c h) rfl rfl rfl rfl rfl ?_
  rintro g w1 hg hB hE
  repeat (first | refine WL1 rfl ?_ | refine WLe rfl rfl ?_ | refine W_region ?_ | refine WL2 inf rfl ?_ | refine WL_ld inf rfl rfl rfl rfl (Blk.cell (by assumption) rfl) ?_)
  exact W_ret1 rfl rfl rfl ⟨rfl, hE⟩
theorem enters_face1 : Enters Tryz.prog 100 := enters_of Tryz.func100 (by kernel_rfl) rfl
theorem face1_any {B : Nat → Prop} (m : Mth) (cs : List Value) (w : World) (hm : MthR B w m cs) : Calls Tryz.prog 100 #[.agg cs.toArray] w fun e w' => e = .returned (.bool (!m.abst && !(m.name == clinit_))) ∧ Ext w w' := by
  obtain ⟨c, h, rfl, -⟩ := hm
  refine calls_W (args := [.agg (Mth.cs m c h).toArray]) Tryz.func100 rfl rfl rfl ?_
  refine Wg rfl (W_region ?_)
  refine WL_box (cs := Mth.cs m c h) rfl rfl rfl rfl rfl ?_
  rintro g w1 hg hB hE
  repeat (first | refine WL1 rfl ?_ | refine WLe rfl rfl ?_ | refine W_region ?_ | refine WL2 inf rfl ?_ | refine WL_ld inf rfl rfl rfl rfl (Blk.cell (by assumption) rfl) ?_)
  exact W_ret1 rfl rfl rfl ⟨rfl, hE⟩
theorem enters_face2 : Enters Tryz.prog 101 := enters_of Tryz.func101 (by kernel_rfl) rfl
theorem face2_any {B : Nat → Prop} (m : Fld) (cs : List Value) (w : World) (hm : FldR B w m cs) : Calls Tryz.prog 101 #[.agg cs.toArray] w fun e w' => e = .returned (.bool (!m.stat)) ∧ Ext w w' := by
  obtain ⟨rfl, -⟩ := hm
  refine calls_W (args := [.agg (Fld.cs m).toArray]) Tryz.func101 rfl rfl rfl ?_
  refine Wg rfl (W_region ?_)
  refine WL_box (cs := Fld.cs m) rfl rfl rfl rfl rfl ?_
  rintro g w1 hg hB hE
  repeat (first | refine WL1 rfl ?_ | refine WLe rfl rfl ?_ | refine W_region ?_ | refine WL2 inf rfl ?_ | refine WL_ld inf rfl rfl rfl rfl (Blk.cell (by assumption) rfl) ?_)
  exact W_ret1 rfl rfl rfl ⟨rfl, hE⟩
theorem enters_apart1 : Enters Tryz.prog 97 := enters_of Tryz.func97 (by kernel_rfl) rfl
theorem apart1_any {B : Nat → Prop} (f m : Fld) (cs : List Value) (g0 : Nat) (w : World) (hm : FldR B w m cs) (hb : Blk w g0 81 (Fld.cs f)) : Calls Tryz.prog 97 #[.agg cs.toArray, .pointer (some ⟨g0, 0, none⟩)] w fun e w' => e = .returned (.bool (m.name == f.name)) ∧ Ext w w' := by
  obtain ⟨rfl, -⟩ := hm
  refine calls_W (args := [.agg (Fld.cs m).toArray, .pointer (some ⟨g0, 0, none⟩)]) Tryz.func97 rfl rfl rfl ?_
  refine Wg rfl (W_region ?_)
  refine WL_box (cs := Fld.cs m) rfl rfl rfl rfl rfl ?_
  rintro g w1 hg hB hE
  replace hb := hb.ext hE
  repeat (first | refine WL1 rfl ?_ | refine WLe rfl rfl ?_ | refine W_region ?_ | refine WL2 inf rfl ?_ | refine WL_ld inf rfl rfl rfl rfl (Blk.cell (by assumption) rfl) ?_)
  exact W_ret1 rfl rfl rfl ⟨rfl, hE⟩
theorem enters_apart2 : Enters Tryz.prog 99 := enters_of Tryz.func99 (by kernel_rfl) rfl
theorem apart2_any {B : Nat → Prop} (f m : Mth) (cs : List Value) (c0 h0 : Value) (g0 : Nat) (w : World) (hm : MthR B w m cs) (hb : Blk w g0 86 (Mth.cs f c0 h0)) : Calls Tryz.prog 99 #[.agg cs.toArray, .pointer (some ⟨g0, 0, none⟩)] w fun e w' => e = .returned (.bool (m.name == f.name && m.desc == f.desc)) ∧ Ext w w' := by
  obtain ⟨c, h, rfl, -⟩ := hm
  refine calls_W (args := [.agg (Mth.cs m c h).toArray, .pointer (some ⟨g0, 0, none⟩)]) Tryz.func99 rfl rfl rfl ?_
  refine Wg rfl (W_region ?_)
  refine WL_box (cs := Mth.cs m c h) rfl rfl rfl rfl rfl ?_
  rintro g w1 hg hB hE
  replace hb := hb.ext hE
  repeat (first | refine WL1 rfl ?_ | refine WLe rfl rfl ?_ | refine W_region ?_ | refine WL2 inf rfl ?_ | refine WL_ld inf rfl rfl rfl rfl (Blk.cell (by assumption) rfl) ?_)
  exact W_ret1 rfl rfl rfl ⟨rfl, hE⟩
theorem enters_doubled1 : Enters Tryz.prog 86 := enters_of Tryz.func86 (by kernel_rfl) rfl
theorem doubled1_any {B : Nat → Prop} (f m : Cls) (cs : List Value) (c0 h0 g1 : Value) (g0 : Nat) (w : World) (hm : ClsR B w m cs) (hb : Blk w g0 44 (Cls.cs f c0 h0 g1)) : Calls Tryz.prog 86 #[.agg cs.toArray, .pointer (some ⟨g0, 0, none⟩)] w fun e w' => e = .returned (.bool (m.name == f.name)) ∧ Ext w w' := by
  obtain ⟨c, h, h', rfl, -⟩ := hm
  refine calls_W (args := [.agg (Cls.cs m c h h').toArray, .pointer (some ⟨g0, 0, none⟩)]) Tryz.func86 rfl rfl rfl ?_
  refine Wg rfl (W_region ?_)
  refine WL_box (cs := Cls.cs m c h h') rfl rfl rfl rfl rfl ?_
  rintro g w1 hg hB hE
  replace hb := hb.ext hE
  repeat (first | refine WL1 rfl ?_ | refine WLe rfl rfl ?_ | refine W_region ?_ | refine WL2 inf rfl ?_ | refine WL_ld inf rfl rfl rfl rfl (Blk.cell (by assumption) rfl) ?_)
  exact W_ret1 rfl rfl rfl ⟨rfl, hE⟩
/-- The rule of the super. -/
def superD (P : Option (List Cls)) (c : Cls) : Bool :=
  (findP P c.super).isSome && !((findP P c.super).getD zeroC).face && !(((findP P c.super).getD zeroC).name == sysS) && (!c.face || ((findP P c.super).getD zeroC).name == objectS)
theorem enters_super : Enters Tryz.prog 57 := enters_of Tryz.func57 (by kernel_rfl) rfl
theorem super_any {B : Nat → Prop} (P : Option (List Cls)) (c : Cls) (pv : Value) (cs : List Value) (w : World) (hP : PrgV w pv P) (hc : ClsR B w c cs) :
    Calls Tryz.prog 57 #[pv, .agg cs.toArray] w fun e w' => e = .returned (.bool (superD P c)) ∧ Ext w w' := by
  obtain ⟨iv, fv, mv, rfl, hl1, hl2, -⟩ := hc
  refine calls_W (args := [pv, .agg (Cls.cs c iv fv mv).toArray]) Tryz.func57 rfl rfl rfl ?_
  refine Wg rfl (W_region ?_)
  refine WL_box (cs := Cls.cs c iv fv mv) rfl rfl rfl rfl rfl ?_
  rintro g w1 hg hB hE
  repeat (first | refine WL1 rfl ?_ | refine WLe rfl rfl ?_ | refine W_region ?_ | refine WL2 inf rfl ?_ | refine WL_ld inf rfl rfl rfl rfl (Blk.cell (by assumption) rfl) ?_)
  refine WL_call rfl rfl rfl rfl rfl enters_find rfl (find_any P c.super pv _ (hP.ext hE)) ?_
  rintro e w2 ⟨cl, rfl, hE2, hR⟩
  refine ⟨_, rfl, ?_⟩
  have hone := ClsR.one _ _ _ _ hR
  obtain ⟨i', f', m', rfl, -⟩ := hR
  replace hB := hB.ext hE2
  repeat (first | refine WL1 rfl ?_ | refine WLe rfl rfl ?_ | refine W_region ?_ | refine WL2 inf rfl ?_ | refine WL_ld inf rfl rfl rfl rfl (Blk.cell (by assumption) rfl) ?_)
  refine WL_alloc inf rfl rfl rfl rfl rfl ?_
  rintro g5 w3 hg5 hB3 hE3
  refine WL_sta inf (cs' := Cls.cs ((findP P c.super).getD zeroC) i' f' m') rfl rfl rfl rfl hone rfl hB3 rfl ?_
  rintro w4 hB4 u4
  replace hB := u4.blk (hB.ext hE3) (by have := hB.lt; omega)
  repeat (first | refine WL1 rfl ?_ | refine WLe rfl rfl ?_ | refine W_region ?_ | refine WL2 inf rfl ?_ | refine WL_ld inf rfl rfl rfl rfl (Blk.cell (by assumption) rfl) ?_)
  refine W_ret1 rfl rfl rfl ⟨ret_bool ?_, u4.ext ((hE.then_ hE2).then_ hE3) (by have := (hE.then_ hE2).size; omega)⟩
  rfl
/-- .. of what is not done. -/
def wholeD (c : Cls) : Bool := c.abst || !c.methods.any (fun m => m.abst)
theorem enters_whole : Enters Tryz.prog 62 := enters_of Tryz.func62 (by kernel_rfl) rfl
theorem whole_any {B : Nat → Prop} (c : Cls) (pv : Value) (cs : List Value) (w : World) (hc : ClsR B w c cs) :
    Calls Tryz.prog 62 #[pv, .agg cs.toArray] w fun e w' => e = .returned (.bool (wholeD c)) ∧ Ext w w' := by
  obtain ⟨iv, fv, mv, rfl, hl1, hl2, hsi, hsf, hsm⟩ := hc
  refine calls_W (args := [pv, .agg (Cls.cs c iv fv mv).toArray]) Tryz.func62 rfl rfl rfl ?_
  refine Wg rfl (W_region ?_)
  refine WL_box (cs := Cls.cs c iv fv mv) rfl rfl rfl rfl rfl ?_
  rintro g w1 hg hB hE
  repeat (first | refine WL1 rfl ?_ | refine WLe rfl rfl ?_ | refine W_region ?_ | refine WL2 inf rfl ?_ | refine WL_ld inf rfl rfl rfl rfl (Blk.cell (by assumption) rfl) ?_)
  refine WL_callg rfl rfl rfl enters_cfMth rfl (fun _ => cfMth_any (cap := []) (fun m => m.abst) (hsm.ext MthR.mono hE) enters_whole1 (fun W x cs hW _ _ hx => whole1_any x cs W (MthR.mono _ _ _ _ _ _ hx hW.keeps fun _ h => h))) ?_
  intro w2 hE2
  repeat (first | refine WL1 rfl ?_ | refine WLe rfl rfl ?_ | refine W_region ?_ | refine WL2 inf rfl ?_ | refine WL_ld inf rfl rfl rfl rfl (Blk.cell (by assumption) rfl) ?_)
  exact W_ret1 rfl rfl rfl ⟨rfl, hE.then_ hE2⟩
/-- What an interface may have. -/
def faceD (c : Cls) : Bool := if c.face then c.abst && !c.methods.any (fun m => !m.abst && !(m.name == clinit_)) && !c.fields.any (fun f => !f.stat) else true
theorem enters_face : Enters Tryz.prog 61 := enters_of Tryz.func61 (by kernel_rfl) rfl
theorem face_any {B : Nat → Prop} (c : Cls) (pv : Value) (cs : List Value) (w : World) (hc : ClsR B w c cs) :
    Calls Tryz.prog 61 #[pv, .agg cs.toArray] w fun e w' => e = .returned (.bool (faceD c)) ∧ Ext w w' := by
  obtain ⟨iv, fv, mv, rfl, hl1, hl2, hsi, hsf, hsm⟩ := hc
  refine calls_W (args := [pv, .agg (Cls.cs c iv fv mv).toArray]) Tryz.func61 rfl rfl rfl ?_
  refine Wg rfl (W_region ?_)
  refine WL_box (cs := Cls.cs c iv fv mv) rfl rfl rfl rfl rfl ?_
  rintro g w1 hg hB hE
  repeat (first | refine WL1 rfl ?_ | refine WLe rfl rfl ?_ | refine W_region ?_ | refine WL2 inf rfl ?_ | refine WL_ld inf rfl rfl rfl rfl (Blk.cell (by assumption) rfl) ?_)
  refine W_cond rfl rfl (fun hb => ?_) (fun hb => ?_)
  · refine Wg rfl (W_region ?_)
    repeat (first | refine WL1 rfl ?_ | refine WLe rfl rfl ?_ | refine W_region ?_ | refine WL2 inf rfl ?_ | refine WL_ld inf rfl rfl rfl rfl (Blk.cell (by assumption) rfl) ?_)
    refine W_ret1 rfl rfl rfl ⟨ret_bool ?_, hE⟩
    unfold faceD
    rw [if_neg (by simpa using hb)]
  · refine Wg rfl (W_region ?_)
    repeat (first | refine WL1 rfl ?_ | refine WLe rfl rfl ?_ | refine W_region ?_ | refine WL2 inf rfl ?_ | refine WL_ld inf rfl rfl rfl rfl (Blk.cell (by assumption) rfl) ?_)
    refine WL_call rfl rfl rfl rfl rfl enters_cfMth rfl (cfMth_any (cap := []) (fun m => !m.abst && !(m.name == clinit_)) (hsm.ext MthR.mono hE) enters_face1 (fun W x cs hW _ _ hx => face1_any x cs W (MthR.mono _ _ _ _ _ _ hx hW.keeps fun _ h => h))) ?_
    rintro e w2 ⟨rfl, hE2⟩
    refine ⟨_, rfl, ?_⟩
    replace hB := hB.ext hE2
    repeat (first | refine WL1 rfl ?_ | refine WLe rfl rfl ?_ | refine W_region ?_ | refine WL2 inf rfl ?_ | refine WL_ld inf rfl rfl rfl rfl (Blk.cell (by assumption) rfl) ?_)
    refine WL_callg rfl rfl rfl enters_cfFld rfl (fun _ => cfFld_any (cap := []) (fun f => !f.stat) (hsf.ext FldR.mono (hE.then_ hE2)) enters_face2 (fun W x cs hW _ _ hx => face2_any x cs W (FldR.mono _ _ _ _ _ _ hx hW.keeps fun _ h => h))) ?_
    intro w3 hE3
    repeat (first | refine WL1 rfl ?_ | refine WLe rfl rfl ?_ | refine W_region ?_ | refine WL2 inf rfl ?_ | refine WL_ld inf rfl rfl rfl rfl (Blk.cell (by assumption) rfl) ?_)
    refine W_ret1 rfl rfl rfl ⟨ret_bool ?_, (hE.then_ hE2).then_ hE3⟩
    unfold faceD
    rw [if_pos (by simpa using hb)]
theorem Row.take {α : Type} {R : Rep α} {z : Nat} {B : Nat → Prop} {w : World} {A : Option Addr} {xs : List α} (h : Row R z B w A xs) (k : Nat) : Row R z B w A (xs.take k) := by
  cases A with
  | none => rw [show xs = [] from h]; simp [Row]
  | some a =>
    intro i x hx
    rw [List.getElem?_take] at hx
    split at hx
    · exact h i x hx
    · cases hx
theorem Row.sl_take {α : Type} {R : Rep α} {z : Nat} {B : Nat → Prop} {w : World} {A : Option Addr} {xs : List α} (h : Row R z B w A xs) {k c : Nat} (hk : k ≤ xs.length) (hc : xs.length ≤ c) (hm : c ≤ maxLen) : Sl R z B w (.slice A k c) (xs.take k) :=
  ⟨A, c, by rw [List.length_take, Nat.min_eq_left hk], by rw [List.length_take]; omega, hm, h.take k⟩
/-- No two of one key. -/
def apartD (c : Cls) : Bool :=
  (List.range c.fields.length).all (fun k => !(c.fields.take k).any fun g => g.name == ((c.fields[k]?).getD ⟨[], [], false⟩).name) &&
  (List.range c.methods.length).all (fun k => !(c.methods.take k).any fun n => n.name == ((c.methods[k]?).getD runM).name && n.desc == ((c.methods[k]?).getD runM).desc)
/-- What an interface list may be. -/
def implD (P : Option (List Cls)) (c : Cls) : Bool :=
  (List.range c.impl.length).all fun k => (findP P ((c.impl[k]?).getD [])).isSome && ((findP P ((c.impl[k]?).getD [])).getD zeroC).face && !((c.impl.take k).contains ((c.impl[k]?).getD []))
theorem range_all {p : Nat → Bool} {n : Nat} (h : ∀ i, i < n → p i = true) : (List.range n).all p = true := by
  rw [List.all_eq_true]; intro i hi; exact h i (List.mem_range.1 hi)
theorem range_no {p : Nat → Bool} {n i : Nat} (hi : i < n) (h : p i = false) : (List.range n).all p = false := by
  rw [Bool.eq_false_iff]
  intro hh
  rw [List.all_eq_true] at hh
  rw [hh i (List.mem_range.2 hi)] at h; cases h
theorem enters_implements : Enters Tryz.prog 58 := enters_of Tryz.func58 (by kernel_rfl) rfl
set_option maxHeartbeats 4000000 in
theorem implements_any {B : Nat → Prop} (P : Option (List Cls)) (c : Cls) (pv : Value) (cs : List Value) (w : World) (hP : PrgV w pv P) (hc : ClsR B w c cs) :
    Calls Tryz.prog 58 #[pv, .agg cs.toArray] w fun e w' => e = .returned (.bool (implD P c)) ∧ Ext w w' := by
  obtain ⟨iv, fv, mv, rfl, hl1, hl2, hsi, hsf, hsm⟩ := hc
  have hlen := hsi.len
  obtain ⟨A, cp, rfl, hi1, hi2, hri⟩ := hsi
  refine calls_W (args := [pv, .agg (Cls.cs c (.slice A c.impl.length cp) fv mv).toArray]) Tryz.func58 rfl rfl rfl ?_
  refine Wg rfl (W_region ?_)
  refine WL_box (cs := Cls.cs c (.slice A c.impl.length cp) fv mv) rfl rfl rfl rfl rfl ?_
  rintro g w1 hg hB hE
  repeat (first | refine WL1 rfl ?_ | refine WLe rfl rfl ?_ | refine W_region ?_ | refine WL2 inf rfl ?_ | refine WL_ld inf rfl rfl rfl rfl (Blk.cell (by assumption) rfl) ?_)
  refine W_loop (fun k : Nat => [(0, [], pv), (3, [], .pointer (some ⟨g, 0, none⟩)), (10, [], .slice A c.impl.length cp), (11, [], .int .i64 c.impl.length), (12, [], .int .i64 k)])
    (fun k W => k ≤ c.impl.length ∧ Ext w W ∧ Blk W g 44 (Cls.cs c (.slice A c.impl.length cp) fv mv) ∧ ∀ i, i < k → ((findP P ((c.impl[i]?).getD [])).isSome && ((findP P ((c.impl[i]?).getD [])).getD zeroC).face && !((c.impl.take i).contains ((c.impl[i]?).getD []))) = true)
    (fun k => c.impl.length - k) 0 (fun _ => rfl) ⟨rfl, rfl, rfl, rfl, rfl, trivial⟩ ⟨Nat.zero_le _, hE, hB, fun i h => absurd h (Nat.not_lt_zero i)⟩ ?_
  clear hE hB
  rintro k W ⟨hk, hE, hB, hno⟩
  refine Wg rfl (W_region ?_)
  repeat (first | refine WL1 rfl ?_ | refine WLe rfl rfl ?_ | refine W_region ?_ | refine WL2 inf rfl ?_ | refine WL_ld inf rfl rfl rfl rfl (Blk.cell (by assumption) rfl) ?_)
  refine W_cond rfl rfl (fun hb => ?_) (fun hb => ?_)
  · have hlt : k < c.impl.length := by simpa using hb
    have hx : c.impl[k]? = some c.impl[k] := List.getElem?_eq_getElem hlt
    generalize c.impl[k] = x at hx
    obtain ⟨a, cs, rfl, hz, ⟨rfl, hxl⟩, hcs⟩ := hri.at_ hx
    refine Wg rfl (W_region ?_)
    repeat (first | refine WL1 rfl ?_ | refine WLe rfl rfl ?_ | refine W_region ?_ | refine WL2 inf rfl ?_ | refine WL_ld inf rfl rfl rfl rfl (Blk.cell (by assumption) rfl) ?_)
    refine WL_ix inf rfl rfl rfl rfl rfl (fun _ => ⟨by omega, by omega⟩) ?_
    refine WL_ld inf rfl rfl rfl rfl ((hcs.cells.ext hE).at_ (j := 0) rfl) ?_
    repeat (first | refine WL1 rfl ?_ | refine WLe rfl rfl ?_ | refine W_region ?_ | refine WL2 inf rfl ?_ | refine WL_ld inf rfl rfl rfl rfl (Blk.cell (by assumption) rfl) ?_)
    refine WL_call rfl rfl rfl rfl rfl enters_find rfl (find_any P x pv _ (hP.ext hE)) ?_
    rintro e w2 ⟨cl, rfl, hE2, hR⟩
    refine ⟨_, rfl, ?_⟩
    have hone := ClsR.one _ _ _ _ hR
    obtain ⟨i', f', m', rfl, -⟩ := hR
    repeat (first | refine WL1 rfl ?_ | refine WLe rfl rfl ?_ | refine W_region ?_ | refine WL2 inf rfl ?_ | refine WL_ld inf rfl rfl rfl rfl (Blk.cell (by assumption) rfl) ?_)
    refine WL_alloc inf rfl rfl rfl rfl rfl ?_
    rintro g7 w3 hg7 hB3 hE3
    refine WL_sta inf (cs' := Cls.cs ((findP P x).getD zeroC) i' f' m') rfl rfl rfl rfl hone rfl hB3 rfl ?_
    rintro w4 hB4 u4
    have hE4 : Ext W w4 := u4.ext (hE2.then_ hE3) (by have := hE2.size; omega)
    replace hB := hB.ext hE4
    repeat (first | refine WL1 rfl ?_ | refine WLe rfl rfl ?_ | refine W_region ?_ | refine WL2 inf rfl ?_ | refine WL_ld inf rfl rfl rfl rfl (Blk.cell (by assumption) rfl) ?_)
    refine WL_cutL inf rfl rfl rfl rfl rfl (fun _ => ⟨by omega, by omega⟩) ?_
    repeat (first | refine WL1 rfl ?_ | refine WLe rfl rfl ?_ | refine W_region ?_ | refine WL2 inf rfl ?_ | refine WL_ld inf rfl rfl rfl rfl (Blk.cell (by assumption) rfl) ?_)
    refine WL_callq rfl rfl rfl rfl rfl enters_hasStr rfl (fun _ => hasStr_any x ((hri.sl_take (k := k) hk hi1 hi2).ext StrR.mono (hE.then_ hE4))) ?_
    repeat (first | refine WL1 rfl ?_ | refine WLe rfl rfl ?_ | refine W_region ?_ | refine WL2 inf rfl ?_ | refine WL_ld inf rfl rfl rfl rfl (Blk.cell (by assumption) rfl) ?_)
    have hfact : ((findP P ((c.impl[k]?).getD [])).isSome && ((findP P ((c.impl[k]?).getD [])).getD zeroC).face && !((c.impl.take k).contains ((c.impl[k]?).getD []))) = ((findP P x).isSome && ((findP P x).getD zeroC).face && !((c.impl.take k).contains x)) := by rw [hx]; rfl
    refine W_cond rfl rfl (fun hc => ?_) (fun hc => ?_)
    · refine Wg rfl (W_region ?_)
      repeat (first | refine WL1 rfl ?_ | refine WLe rfl rfl ?_ | refine W_region ?_ | refine WL2 inf rfl ?_ | refine WL_ld inf rfl rfl rfl rfl (Blk.cell (by assumption) rfl) ?_)
      refine W_ret1 rfl rfl rfl ⟨ret_bool ?_, hE.then_ hE4⟩
      refine (range_no hlt ?_).symm
      rw [hfact]
      revert hc
      cases (findP P x).isSome <;> cases ((findP P x).getD zeroC).face <;> cases (c.impl.take k).contains x <;> simp
    · refine Wg rfl (W_region ?_)
      refine WL_add rfl rfl rfl rfl rfl rfl rfl (fun _ => by omega) ?_
      repeat (first | refine WL1 rfl ?_ | refine WLe rfl rfl ?_ | refine W_region ?_ | refine WL2 inf rfl ?_ | refine WL_ld inf rfl rfl rfl rfl (Blk.cell (by assumption) rfl) ?_)
      refine WLr rfl (k + 1) (by omega) ⟨hlt, hE.then_ hE4, hB, fun i hi => ?_⟩ rfl ⟨rfl, rfl, rfl, rfl, rfl, trivial⟩
      rcases Nat.lt_or_eq_of_le (Nat.le_of_lt_succ hi) with h1 | rfl
      · exact hno i h1
      · rw [hfact]
        revert hc
        cases (findP P x).isSome <;> cases ((findP P x).getD zeroC).face <;> cases (c.impl.take i).contains x <;> simp
  · have hk' : k = c.impl.length := by simp at hb; omega
    subst hk'
    refine Wg rfl (W_region ?_)
    repeat (first | refine WL1 rfl ?_ | refine WLe rfl rfl ?_ | refine W_region ?_ | refine WL2 inf rfl ?_ | refine WL_ld inf rfl rfl rfl rfl (Blk.cell (by assumption) rfl) ?_)
    exact W_ret1 rfl rfl rfl ⟨ret_bool (range_all hno).symm, hE⟩
end Go.Proofs.YtljcmmmajjmpoaaGreatDoor
