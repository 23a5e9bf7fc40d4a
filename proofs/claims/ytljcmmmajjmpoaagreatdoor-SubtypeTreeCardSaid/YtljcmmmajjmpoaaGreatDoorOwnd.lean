/- classfile.Own. -/
import Derived.Test.YtljcmmmajjmpoaaGreatDoorOwnc
namespace Go.Proofs.YtljcmmmajjmpoaaGreatDoor
open Go.RowKit Sp

theorem Each.drop {α β : Type} {p : α → β → Prop} : ∀ {l : List α} {m : List β} (k : Nat), Each p l m → Each p (l.drop k) (m.drop k)
  | [], [], k, _ => by simp [Each]
  | _ :: _, _ :: _, 0, h => h
  | _ :: _, _ :: _, k + 1, h => by simpa using Each.drop k h.2
theorem enters_own : Enters Tryz.prog 53 := enters_of Tryz.func53 (by kernel_rfl) rfl
set_option maxRecDepth 100000 in
set_option maxHeartbeats 4000000 in
theorem own_any {B : Nat → Prop} (c : Cls) (w : World) {iv fv mv : Value} (hB : ∀ k, B k → k < w.heap.size) (hc : ClsR B w c (Cls.cs c iv fv mv)) (hs : Small c) :
    Calls Tryz.prog 53 #[.agg (Cls.cs c iv fv mv).toArray] w fun e w' => ∃ iv' fv' mv', e = .returned (.agg (Cls.cs c iv' fv' mv').toArray) ∧ Ext w w' ∧ ClsR (fun b => w.heap.size ≤ b ∧ b < w'.heap.size) w' c (Cls.cs c iv' fv' mv') := by
  obtain ⟨i', f', m', heq, hl1, hl2, hsi, hsf, hsm⟩ := hc
  obtain ⟨rfl, rfl, rfl⟩ : iv = i' ∧ fv = f' ∧ mv = m' := by simp only [Cls.cs, List.cons.injEq, and_true, true_and] at heq; exact heq
  obtain ⟨s1, s2, s3, s4⟩ := hs
  have onei := hsi.one
  have onef := hsf.one
  have onem := hsm.one
  refine calls_W (args := [.agg (Cls.cs c iv fv mv).toArray]) Tryz.func53 rfl rfl rfl ?_
  refine Wg rfl (W_region ?_)
  refine WL_box (cs := Cls.cs c iv fv mv) rfl rfl rfl rfl rfl ?_
  rintro g w1 hg hB1 hE1
  refine WL_alloc inf rfl rfl rfl rfl rfl ?_
  rintro g2 w2 hg2 hB2 hE2
  have hE := hE1.then_ hE2
  have l1 := hB1.lt
  have l2 := hB2.lt
  have z1 := hE1.size
  have z2 := hE2.size
  replace hB1 := hB1.ext hE2
  repeat (first | refine WL1 rfl ?_ | refine WLe rfl rfl ?_ | refine W_region ?_ | refine WL2 inf rfl ?_ | refine WL_ld inf rfl rfl rfl rfl (Blk.cell (by assumption) rfl) ?_)
  have hd : Ext w w2.drew := hE.then_ (Ext.drew_ w2)
  have sd : w2.drew.heap.size = w2.heap.size := rfl
  have hBd := hB1.ext (Ext.drew_ w2)
  refine W_draws (fun W' => Ext w2.drew W') [10, 12, 14] mixed_ ?_
  refine WDp 0 rfl (by first | exact stepV_yl _ rfl | exact stepI_yl _ inf rfl) (by kernel_rfl) ?_
  refine WDq 1 rfl (yl_ld inf rfl rfl rfl rfl (fun W' hS => (hBd.ext hS).cell rfl)) (Ext.rfl' _) (by kernel_rfl) ?_
  refine WDp 3 rfl (by first | exact stepV_yl _ rfl | exact stepI_yl _ inf rfl) (by kernel_rfl) ?_
  refine WDq 4 rfl (yl_ld inf rfl rfl rfl rfl (fun W' hS => (hBd.ext hS).cell rfl)) (Ext.rfl' _) (by kernel_rfl) ?_
  refine WDp 6 rfl (by first | exact stepV_yl _ rfl | exact stepI_yl _ inf rfl) (by kernel_rfl) ?_
  refine WDq 7 rfl (yl_ld inf rfl rfl rfl rfl (fun W' hS => (hBd.ext hS).cell rfl)) (Ext.rfl' _) (by kernel_rfl) ?_
  refine WDl 2 rfl (by kernel_rfl) (WL_call rfl rfl rfl rfl rfl enters_cloneStr rfl (cloneStr_any (hsi.ext StrR.mono hd) (by omega)) ?_)
  rintro e wa ⟨va, ca, rfl, hEa, hoa, hea⟩
  refine ⟨_, rfl, WDc (fun h => h.then_ hEa) ?_⟩
  refine WDp 9 rfl (by first | exact stepV_yl _ rfl | exact stepI_yl _ inf rfl) (by kernel_rfl) ?_
  refine WDl 5 rfl (by kernel_rfl) (WL_call rfl rfl rfl rfl rfl enters_cloneFld rfl (cloneFld_any (hsf.ext FldR.mono (hd.then_ hEa)) (by omega)) ?_)
  rintro e wb ⟨vb, cb, rfl, hEb, hob, heb⟩
  refine ⟨_, rfl, WDc (fun h => h.then_ hEb) ?_⟩
  refine WDl 8 rfl (by kernel_rfl) (WL_call rfl rfl rfl rfl rfl enters_cloneMth rfl (cloneMth_any (hsm.ext MthR.mono ((hd.then_ hEa).then_ hEb)) (by omega)) ?_)
  rintro e wc ⟨vc, cc, rfl, hEc, hoc, hec⟩
  refine ⟨_, rfl, WDc (fun h => h.then_ hEc) ?_⟩
  have za := hEa.size
  have zb := hEb.size
  have zc := hEc.size
  have hBc := ((hBd.ext hEa).ext hEb).ext hEc
  have hB2c := (((hB2.ext (Ext.drew_ _)).ext hEa).ext hEb).ext hEc
  have onea : va.oneCell' = true := by obtain ⟨A, c, rfl⟩ := hoa.val; rfl
  have oneb : vb.oneCell' = true := by obtain ⟨A, c, rfl⟩ := hob.val; rfl
  have onec : vc.oneCell' = true := by obtain ⟨A, c, rfl⟩ := hoc.val; rfl
  refine WDl 10 rfl (by kernel_rfl) (WL_st (g := g) (i := 4) inf rfl rfl rfl rfl onea rfl hBc rfl ?_)
  rintro wd hBd' ud
  refine WDd (by simp) ?_
  refine WDp 11 rfl (by first | exact stepV_yl _ rfl | exact stepI_yl _ inf rfl) (by kernel_rfl) ?_
  refine WDl 12 rfl (by kernel_rfl) (WL_st (g := g) (i := 5) inf rfl rfl rfl rfl oneb rfl hBd' rfl ?_)
  rintro we hBe ue
  refine WDd (by simp) ?_
  refine WDp 13 rfl (by first | exact stepV_yl _ rfl | exact stepI_yl _ inf rfl) (by kernel_rfl) ?_
  refine WDl 14 rfl (by kernel_rfl) (WL_st (g := g) (i := 6) inf rfl rfl rfl rfl onec rfl hBe rfl ?_)
  rintro wf hBf uf
  refine WDd (by simp) (WDe (by kernel_rfl) ?_)
  replace hBf : Blk wf g 44 (Cls.cs c va vb vc) := hBf
  have hB2f := uf.blk (ue.blk (ud.blk hB2c (by omega)) (by omega)) (by omega)
  have hEf : Ext w wf := uf.ext (ue.ext (ud.ext (((hd.then_ hEa).then_ hEb).then_ hEc) (by omega)) (by omega)) (by omega)
  have zf : wf.heap.size = wc.heap.size := by rw [uf.size, ue.size, ud.size]
  have up : ∀ {e z base : Nat} {v : Value} {css : List (List Value)}, OwnR base e z wc v css → w2.heap.size ≤ base → OwnR base e z wf v css := fun h hb =>
    ((h.upd ud (fun e => by have := (h.own g e).1; omega)).upd ue (fun e => by have := (h.own g e).1; omega)).upd uf (fun e => by have := (h.own g e).1; omega)
  have hoa2 := up ((hoa.ext hEb).ext hEc) (by omega)
  have hob2 := up (hob.ext hEc) (by omega)
  have hoc2 := up hoc (by omega)
  have hia := hoa2.sl (R := StrR) (B := fun b => w2.heap.size ≤ b ∧ b < wb.heap.size) (hea.imp fun x cs h => h) fun b hb => by have := hoa.own b hb; omega
  have hib := hob2.sl (R := FldR) (B := fun b => w2.heap.size ≤ b ∧ b < wb.heap.size) (heb.imp fun x cs h => h) fun b hb => by have := hob.own b hb; omega
  have hec2 : Each (MthR B wf) c.methods cc := by
    refine hec.imp fun x cs h => ?_
    have h1 := MthR.mono _ _ _ _ _ _ h (ud.keeps fun b hb e => by have := hB b hb; omega) fun _ h => h
    have h2 := MthR.mono _ _ _ _ _ _ h1 (ue.keeps fun b hb e => by have := hB b hb; omega) fun _ h => h
    exact MthR.mono _ _ _ _ _ _ h2 (uf.keeps fun b hb e => by have := hB b hb; omega) fun _ h => h
  obtain ⟨A, cap, hvc⟩ := hoc.val
  have hcl := hec.len
  have hvc' : vc = .slice A c.methods.length cap := by rw [hcl]; exact hvc
  clear hvc
  subst hvc'
  have hgm : ∀ b, Value.ownBlock (.slice A c.methods.length cap) = some b → wb.heap.size ≤ b ∧ b < wf.heap.size := fun b hb => hoc2.own b hb
  clear hoa hob hoc hea heb hec hBc hBd hBd' hBe hB2c hoa2 hob2 up hsi hsf hsm
  repeat (first | refine WL1 rfl ?_ | refine WLe rfl rfl ?_ | refine W_region ?_ | refine WL2 inf rfl ?_ | refine WL_ld inf rfl rfl rfl rfl (Blk.cell (by assumption) rfl) ?_)
  refine W_loop (fun k : Nat => [(1, [], .pointer (some ⟨g, 0, none⟩)), (2, [], .pointer (some ⟨g2, 0, none⟩)), (18, [], .slice A c.methods.length cap), (19, [], .int .i64 c.methods.length), (20, [], .int .i64 k)])
    (fun k W => k ≤ c.methods.length ∧ Ext w W ∧ wf.heap.size ≤ W.heap.size ∧ Blk W g 44 (Cls.cs c va vb (.slice A c.methods.length cap)) ∧ (∃ t cs, Blk W g2 t cs ∧ t = 44 ∧ cs.length = 7) ∧
      Sl StrR 1 (fun b => w2.heap.size ≤ b ∧ b < wb.heap.size) W va c.impl ∧ Sl FldR 3 (fun b => w2.heap.size ≤ b ∧ b < wb.heap.size) W vb c.fields ∧
      ∃ css, OwnR wb.heap.size 86 8 W (.slice A c.methods.length cap) (css ++ cc.drop k) ∧ Each (MthR (fun b => w2.heap.size ≤ b ∧ b < W.heap.size ∧ some b ≠ Value.ownBlock (.slice A c.methods.length cap)) W) (c.methods.take k) css)
    (fun k => c.methods.length - k) 0 (fun _ => rfl) ⟨rfl, rfl, rfl, rfl, rfl, trivial⟩ ⟨Nat.zero_le _, hEf, Nat.le_refl _, hBf, ⟨_, _, hB2f, rfl, rfl⟩, hia, hib, [], hoc2, trivial⟩ ?_
  clear hia hib hBf hB2f hoc2
  rintro k W ⟨hk, hEW, zW, hB1, ⟨t2, cs2, hB2, ht2, hcs2⟩, hia, hib, css, hown, heach⟩
  have hcssl : css.length = k := by rw [← heach.len, List.length_take]; omega
  refine Wg rfl (W_region ?_)
  repeat (first | refine WL1 rfl ?_ | refine WLe rfl rfl ?_ | refine W_region ?_ | refine WL2 inf rfl ?_ | refine WL_ld inf rfl rfl rfl rfl (Blk.cell (by assumption) rfl) ?_)
  refine W_cond rfl rfl (fun hb => ?_) (fun hb => ?_)
  · have hlt : k < c.methods.length := by simpa using hb
    have hx : c.methods[k]? = some c.methods[k] := List.getElem?_eq_getElem hlt
    have htk : c.methods.take (k + 1) = c.methods.take k ++ [c.methods[k]] := by rw [List.take_add_one, hx]; rfl
    generalize c.methods[k] = m at hx htk
    obtain ⟨cs, hcc, hR⟩ := hec2.get hx
    have hdr : cc.drop k = cs :: cc.drop (k + 1) := by
      obtain ⟨h1, h2⟩ := List.getElem?_eq_some_iff.1 hcc
      rw [← h2]; exact List.drop_eq_getElem_cons h1
    rw [hdr] at hown
    have hget : (css ++ cs :: cc.drop (k + 1))[k]? = some cs := by rw [List.getElem?_append_right (by omega), hcssl]; simp
    obtain ⟨gm, c', hv, hge, hgl, hcells⟩ := hown.cells hget
    have hA : A = some ⟨gm, 0, none⟩ := congrArg (fun v => match v with | Value.slice A _ _ => A | _ => none) hv
    subst hA
    have hkeep : Keeps B wf W := fun a v hb hc => (hEW.cell (p := a) (hB _ hb)).trans ((hEf.cell (p := a) (hB _ hb)).symm.trans hc)
    have hRW := MthR.mono _ _ _ _ _ _ hR hkeep fun _ h => h
    obtain ⟨sc, sh⟩ := s4 m (List.mem_of_getElem? hx)
    have hRW0 := hRW
    obtain ⟨cv, hv', rfl, hx1, hx2, hsc, hsh⟩ := hRW0
    have hgm2 := hgm gm rfl
    refine Wg rfl (W_region ?_)
    repeat (first | refine WL1 rfl ?_ | refine WLe rfl rfl ?_ | refine W_region ?_ | refine WL2 inf rfl ?_ | refine WL_ld inf rfl rfl rfl rfl (Blk.cell (by assumption) rfl) ?_)
    refine WL_ix inf rfl rfl rfl rfl rfl (fun _ => ⟨by omega, by omega⟩) ?_
    refine WL_lda inf (cs := Mth.cs m cv hv') rfl rfl rfl rfl hcells ?_
    refine WL_alloc inf rfl rfl rfl rfl rfl ?_
    rintro g4 w4 hg4 hB4 hE4
    refine WL1 rfl ?_
    refine WL_sta inf (cs' := Mth.cs m cv hv') rfl rfl rfl rfl (Mth.one m hsc.one hsh.one) rfl hB4 rfl ?_
    rintro w5 hB5 u5
    have hE5 : Ext W w5 := u5.ext hE4 (by omega)
    have z5 := hE5.size
    have l5 := hB5.lt
    have hB15 := hB1.ext hE5
    repeat (first | refine WL1 rfl ?_ | refine WLe rfl rfl ?_ | refine W_region ?_ | refine WL2 inf rfl ?_ | refine WL_ld inf rfl rfl rfl rfl (Blk.cell (by assumption) rfl) ?_)
    refine W_draws (fun W' => Ext w5.drew W') [6] mixed_ ?_
    refine WDp 0 rfl (by first | exact stepV_yl _ rfl | exact stepI_yl _ inf rfl) (by kernel_rfl) ?_
    refine WDq 1 rfl (yl_ld inf rfl rfl rfl rfl (fun W' hS => ((hB15.ext (Ext.drew_ _)).ext hS).cell rfl)) (Ext.rfl' _) (by kernel_rfl) ?_
    refine WDp 2 rfl (by first | exact stepV_yl _ rfl | exact stepI_yl _ inf rfl) (by kernel_rfl) ?_
    refine WDq 3 rfl (yl_lda inf (cs := Mth.cs m cv hv') rfl rfl rfl rfl (fun W' hS => ((hB5.ext (Ext.drew_ _)).ext hS).cells)) (Ext.rfl' _) (by kernel_rfl) ?_
    have hEd := hE5.then_ (Ext.drew_ w5)
    refine WDl 4 rfl (by kernel_rfl) (WL_call rfl rfl rfl rfl rfl enters_ownm rfl (ownm_any m cv hv' _ (MthR.mono _ _ _ _ _ _ hRW hEd.keeps fun _ h => h) ⟨by omega, by omega⟩) ?_)
    rintro e w6 ⟨cv2, hv2, rfl, hE6, hm2⟩
    refine ⟨_, rfl, WDc (fun h => h.then_ hE6) ?_⟩
    have z6 := hE6.size
    have zd : w5.drew.heap.size = w5.heap.size := rfl
    have hE56 := hEd.then_ hE6
    refine WDp 5 rfl (yl_ix inf rfl rfl rfl rfl rfl (fun _ => ⟨by omega, by omega⟩)) (by kernel_rfl) ?_
    have onem2 : ∀ v ∈ Mth.cs m cv2 hv2, v.oneCell' = true := MthR.one _ _ _ _ hm2
    refine WDl 6 rfl (by kernel_rfl) (WL_stra (z := 8) (i := k) inf rfl rfl rfl rfl onem2 rfl (hown.ext hE56) hget rfl ?_)
    rintro w7 hown7 u7
    refine WDd (by simp) (WDe (by kernel_rfl) ?_)
    have z7 := u7.size
    have hE7 : Ext w w7 := u7.ext (hEW.then_ hE56) (by have := hEf.size; omega)
    have hset : (css ++ Mth.cs m cv hv' :: cc.drop (k + 1)).set k (Mth.cs m cv2 hv2) = css ++ [Mth.cs m cv2 hv2] ++ cc.drop (k + 1) := by
      rw [List.set_append_right _ _ (by omega), hcssl]; simp
    rw [hset] at hown7
    have hB17 := u7.blk (hB1.ext hE56) (by omega)
    have hB27 := u7.blk (hB2.ext hE56) (by omega)
    have kp : Keeps (fun b => w2.heap.size ≤ b ∧ b < wb.heap.size) W w7 := hE56.keeps.then_ (u7.keeps fun b hb e => by omega)
    repeat (first | refine WL1 rfl ?_ | refine WLe rfl rfl ?_ | refine W_region ?_ | refine WL2 inf rfl ?_ | refine WL_ld inf rfl rfl rfl rfl (Blk.cell (by assumption) rfl) ?_)
    refine WL_add rfl rfl rfl rfl rfl rfl rfl (fun _ => by omega) ?_
    repeat (first | refine WL1 rfl ?_ | refine WLe rfl rfl ?_ | refine W_region ?_ | refine WL2 inf rfl ?_ | refine WL_ld inf rfl rfl rfl rfl (Blk.cell (by assumption) rfl) ?_)
    refine WLr rfl (k + 1) (by omega) ⟨hlt, hE7, by omega, hB17, ⟨_, _, hB27, ht2, hcs2⟩, hia.mono StrR.mono kp fun _ h => h, hib.mono FldR.mono kp fun _ h => h, _, hown7, ?_⟩ rfl ⟨rfl, rfl, rfl, rfl, rfl, trivial⟩
    rw [htk]
    refine Each.app (heach.imp fun x cs h => ?_) ⟨?_, trivial⟩
    · refine MthR.mono _ _ _ _ _ _ h (hE56.keeps.then_ (u7.keeps fun b hb e => hb.2.2 (by rw [e]; rfl))) fun b hb => ⟨hb.1, by omega, hb.2.2⟩
    · refine MthR.mono _ _ _ _ _ _ hm2 (u7.keeps fun b hb e => by omega) fun b hb => ⟨by have := hEd.size; omega, by omega, fun e => by have e' := Option.some.inj (show some b = some gm from e); omega⟩
  have hk' : k = c.methods.length := by simp at hb; omega
  subst hk'
  refine Wg rfl (W_region ?_)
  refine WL_lda inf (cs := Cls.cs c va vb (.slice A c.methods.length cap)) rfl rfl rfl rfl hB1.cells ?_
  subst ht2
  refine WL_sta inf (cs' := Cls.cs c va vb (.slice A c.methods.length cap)) rfl rfl rfl rfl (Cls.one c onea oneb rfl) rfl hB2 (by rw [hcs2]; rfl) ?_
  rintro w8 hB8 u8
  repeat (first | refine WL1 rfl ?_ | refine WLe rfl rfl ?_ | refine W_region ?_ | refine WL2 inf rfl ?_ | refine WL_ld inf rfl rfl rfl rfl (Blk.cell (by assumption) rfl) ?_)
  have hsm2 : Sl MthR 8 (fun b => w.heap.size ≤ b ∧ b < w8.heap.size) w8 (.slice A c.methods.length cap) c.methods := by
    have ht : c.methods.take c.methods.length = c.methods := List.take_length
    rw [ht] at heach
    have hd0 : cc.drop c.methods.length = [] := by rw [hcl]; exact List.drop_length
    rw [hd0, List.append_nil] at hown
    have hown8 := hown.upd u8 (fun e => by have := (hown.own g2 e).1; omega)
    refine hown8.slB (heach.imp fun x cs h => MthR.mono _ _ _ _ _ _ h (u8.keeps fun b hb e => by omega) fun b hb => ⟨by omega, by have := u8.size; omega⟩) fun b hb => ⟨by omega, hb.2⟩
  refine W_retL [.agg (Cls.cs c va vb (.slice A c.methods.length cap)).toArray] rfl rfl ⟨⟨_, rfl, loadVar_agg inf rfl hB8.cells⟩, trivial⟩ ⟨va, vb, _, rfl, u8.ext hEW (by omega), va, vb, _, rfl, hl1, hl2, ?_, ?_, hsm2⟩
  · refine hia.mono StrR.mono (u8.keeps fun b hb e => by omega) fun b hb => ⟨by omega, by have := u8.size; omega⟩
  · refine hib.mono FldR.mono (u8.keeps fun b hb e => by omega) fun b hb => ⟨by omega, by have := u8.size; omega⟩
end Go.Proofs.YtljcmmmajjmpoaaGreatDoor
