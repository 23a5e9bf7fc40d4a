/- link: a program in memory; find, chain. -/
import Derived.Test.YtljcmmmajjmpoaaGreatDoorOwnd
namespace Go.Proofs.YtljcmmmajjmpoaaGreatDoor
open Go.RowKit Sp

def zeroC : Cls := ⟨[], [], false, false, [], [], []⟩
/-- The map leads to the class of a name. -/
def Idx (es : List (L × Int)) (cs : List Cls) : Prop := ∀ s, lkD es s = (cs.findIdx? (fun c => c.name == s)).map fun i : Nat => (i : Int)
def ProgAt (w : World) (q : Nat) (cs : List Cls) : Prop := ∃ lv r es, CellsAt w ⟨q, 0, none⟩ [lv, .map (some r)] ∧ Sl ClsR 7 Any_ w lv cs ∧ MapAt w r es ∧ Idx es cs
theorem ProgAt.ext {w w1 : World} {q : Nat} {cs : List Cls} (h : ProgAt w q cs) (he : Ext w w1) : ProgAt w1 q cs := by
  obtain ⟨lv, r, es, h1, h2, h3, h4⟩ := h
  exact ⟨lv, r, es, h1.ext he, h2.ext ClsR.mono he, h3.ext he, h4⟩
/-- A program, or none. -/
def PrgV (w : World) (pv : Value) : Option (List Cls) → Prop
  | none => pv = .pointer none
  | some cs => ∃ q, pv = .pointer (some ⟨q, 0, none⟩) ∧ ProgAt w q cs
theorem PrgV.ext {w w1 : World} {pv : Value} {P : Option (List Cls)} (h : PrgV w pv P) (he : Ext w w1) : PrgV w1 pv P := by
  cases P with
  | none => exact h
  | some cs => obtain ⟨q, h1, h2⟩ := h; exact ⟨q, h1, h2.ext he⟩
def findP (P : Option (List Cls)) (s : L) : Option Cls := P.bind fun cs => cs.find? (fun c => c.name == s)
theorem zeroC_rep (B : Nat → Prop) (w : World) : ClsR B w zeroC (Cls.cs zeroC (.slice none 0 0) (.slice none 0 0) (.slice none 0 0)) := ⟨_, _, _, rfl, by simp [zeroC], by simp [zeroC], Sl.nil _ _ _ _, Sl.nil _ _ _ _, Sl.nil _ _ _ _⟩
theorem ClsR.len {B : Nat → Prop} {w : World} {c : Cls} {cs : List Value} (h : ClsR B w c cs) : cs.length = 7 := by obtain ⟨i, f, m, rfl, _⟩ := h; rfl
theorem enters_find : Enters Tryz.prog 71 := enters_of Tryz.func71 (by kernel_rfl) rfl
set_option maxHeartbeats 4000000 in
theorem find_at (P : Option (List Cls)) (s : L) (pv : Value) (w0 w : World) (hP : PrgV w0 pv P) (hE0 : Ext w0 w) :
    Calls Tryz.prog 71 #[pv, .string (mkS s)] w fun e w' => ∃ cells, e = .returned (.tuple #[.agg cells.toArray, .bool (findP P s).isSome]) ∧ Ext w w' ∧ ClsR Any_ w0 ((findP P s).getD zeroC) cells := by
  cases P with
  | none =>
    obtain rfl : pv = .pointer none := hP
    refine calls_W (args := [.pointer none, .string (mkS s)]) Tryz.func71 rfl rfl rfl ?_
    refine Wg rfl (W_region ?_)
    refine WL_alloc inf (cs := Cls.cs zeroC (.slice none 0 0) (.slice none 0 0) (.slice none 0 0)) rfl rfl rfl rfl rfl ?_
    rintro g w1 hg hB hE
    repeat (first | refine WL1 rfl ?_ | refine WLe rfl rfl ?_ | refine W_region ?_ | refine WL2 inf rfl ?_ | refine WL_ld inf rfl rfl rfl rfl (Blk.cell (by assumption) rfl) ?_)
    refine W_cond rfl rfl (fun hb => ?_) (fun hb => by cases hb)
    refine Wg rfl (W_region ?_)
    refine WL_lda inf (cs := Cls.cs zeroC (.slice none 0 0) (.slice none 0 0) (.slice none 0 0)) rfl rfl rfl rfl hB.cells ?_
    refine WL_sta inf (cs' := Cls.cs zeroC (.slice none 0 0) (.slice none 0 0) (.slice none 0 0)) rfl rfl rfl rfl (Cls.one _ rfl rfl rfl) rfl hB rfl ?_
    rintro w2 hB2 u
    repeat (first | refine WL1 rfl ?_ | refine WLe rfl rfl ?_ | refine W_region ?_ | refine WL2 inf rfl ?_ | refine WL_ld inf rfl rfl rfl rfl (Blk.cell (by assumption) rfl) ?_)
    exact W_retL [.agg (Cls.cs zeroC (.slice none 0 0) (.slice none 0 0) (.slice none 0 0)).toArray, .bool false] rfl rfl ⟨⟨_, rfl, loadVar_agg inf rfl hB2.cells⟩, rfl, trivial⟩ ⟨_, rfl, u.ext hE (by omega), zeroC_rep _ _⟩
  | some cs =>
    obtain ⟨q, rfl, lv, r, es, hq, hl, hm, hI⟩ := hP
    obtain ⟨A, c, rfl, hlc, hmx, hrow⟩ := hl
    refine calls_W (args := [.pointer (some ⟨q, 0, none⟩), .string (mkS s)]) Tryz.func71 rfl rfl rfl ?_
    refine Wg rfl (W_region ?_)
    refine WL_alloc inf (cs := Cls.cs zeroC (.slice none 0 0) (.slice none 0 0) (.slice none 0 0)) rfl rfl rfl rfl rfl ?_
    rintro g w1 hg hB hE
    have hE9 := hE0.then_ hE
    repeat (first | refine WL1 rfl ?_ | refine WLe rfl rfl ?_ | refine W_region ?_ | refine WL2 inf rfl ?_ | refine WL_ld inf rfl rfl rfl rfl (Blk.cell (by assumption) rfl) ?_)
    refine W_cond rfl rfl (fun hb => by cases hb) (fun hb => ?_)
    refine Wg rfl (W_region ?_)
    repeat (first | refine WL1 rfl ?_ | refine WLe rfl rfl ?_ | refine W_region ?_ | refine WL2 inf rfl ?_ | refine WL_ld inf rfl rfl rfl rfl (Blk.cell (by assumption) rfl) ?_)
    refine WL_ld inf rfl rfl rfl rfl ((hq.ext hE9).at_ (j := 1) rfl) ?_
    repeat (first | refine WL1 rfl ?_ | refine WLe rfl rfl ?_ | refine W_region ?_ | refine WL2 inf rfl ?_ | refine WL_ld inf rfl rfl rfl rfl (Blk.cell (by assumption) rfl) ?_)
    refine WL_lk2 rfl rfl rfl mSI rfl (hm.ext hE9) ?_
    repeat (first | refine WL1 rfl ?_ | refine WLe rfl rfl ?_ | refine W_region ?_ | refine WL2 inf rfl ?_ | refine WL_ld inf rfl rfl rfl rfl (Blk.cell (by assumption) rfl) ?_)
    have hIs := hI s
    refine W_cut (fun x : List Value × Bool => [(4, [], .pointer (some ⟨g, 0, none⟩)), (5, [], .bool (findP (some cs) s).isSome)]) (fun x W => Ext w W ∧ Blk W g 44 x.1 ∧ ClsR Any_ w0 ((findP (some cs) s).getD zeroC) x.1) ?_ ?_
    · refine W_cond rfl rfl (fun hc => ?_) (fun hc => ?_)
      · obtain ⟨k, hk⟩ : ∃ k, cs.findIdx? (fun c => c.name == s) = some k := by
          cases h : cs.findIdx? (fun c => c.name == s) with
          | none => rw [hIs, h] at hc; cases hc
          | some k => exact ⟨k, rfl⟩
        have hl : lkD es s = some (k : Int) := by rw [hIs, hk]; rfl
        obtain ⟨hlt, hp1, hp2⟩ := List.findIdx?_eq_some_iff_getElem.1 hk
        have hx : cs[k]? = some cs[k] := List.getElem?_eq_getElem hlt
        have hf : findP (some cs) s = some cs[k] := by
          show cs.find? _ = _
          rw [List.find?_eq_some_iff_getElem]
          exact ⟨hp1, k, hlt, rfl, fun j hj => by have := hp2 j hj; simpa using this⟩
        obtain ⟨a, cl, rfl, hz, hR, hcs⟩ := hrow.at_ hx
        have hgd : (lkD es s).getD 0 = (k : Int) := by rw [hl]; rfl
        refine Wg rfl (W_region ?_)
        repeat (first | refine WL1 rfl ?_ | refine WLe rfl rfl ?_ | refine W_region ?_ | refine WL2 inf rfl ?_ | refine WL_ld inf rfl rfl rfl rfl (Blk.cell (by assumption) rfl) ?_)
        refine WL_ld inf rfl rfl rfl rfl ((hq.ext hE9).at_ (j := 0) rfl) ?_
        repeat (first | refine WL1 rfl ?_ | refine WLe rfl rfl ?_ | refine W_region ?_ | refine WL2 inf rfl ?_ | refine WL_ld inf rfl rfl rfl rfl (Blk.cell (by assumption) rfl) ?_)
        refine WL_ix inf rfl rfl rfl rfl rfl (fun _ => by rw [hgd]; omega) ?_
        refine WL_lda inf (cs := cl) rfl rfl (by rw [hz]; rfl) rfl (by rw [hgd]; exact hcs.cells.ext hE9) ?_
        refine WL_sta inf (cs' := cl) rfl rfl rfl (by rw [hz]; rfl) (ClsR.one _ _ _ _ hR) rfl hB (by rw [hz]; rfl) ?_
        rintro w2 hB2 u
        have hE2 : Ext w w2 := u.ext hE (by omega)
        refine WLm rfl (cl, true) ⟨hE2, hB2, ?_⟩ rfl ⟨rfl, ?_, trivial⟩
        · rw [hf]; exact hR
        · rw [hf]; show getG _ 5 = some ([], Value.bool true); rw [show Value.bool true = Value.bool (lkD es s).isSome by rw [hl]; rfl]; rfl
      · have hn : cs.findIdx? (fun c => c.name == s) = none := by
          cases h : cs.findIdx? (fun c => c.name == s) with
          | none => rfl
          | some k => rw [hIs, h] at hc; cases hc
        have hf : findP (some cs) s = none := by
          show cs.find? _ = _
          rw [List.find?_eq_none]
          rw [List.findIdx?_eq_none_iff] at hn
          intro x hx
          rw [hn x hx]; simp
        refine Wm rfl (Cls.cs zeroC (.slice none 0 0) (.slice none 0 0) (.slice none 0 0), false) ⟨hE, hB, ?_⟩ rfl ⟨rfl, ?_, trivial⟩
        · rw [hf]; exact zeroC_rep _ _
        · rw [hf]; show getG _ 5 = some ([], Value.bool false); rw [show Value.bool false = Value.bool (lkD es s).isSome by rw [hc]]; rfl
    · rintro ⟨cl, b⟩ W ⟨hE2, hB2, hR⟩
      dsimp only at hB2 hR
      have hz := hR.len
      refine Wg rfl (W_region ?_)
      refine WL_lda inf (cs := cl) rfl rfl (by rw [hz]; rfl) rfl hB2.cells ?_
      repeat (first | refine WL1 rfl ?_ | refine WLe rfl rfl ?_ | refine W_region ?_ | refine WL2 inf rfl ?_ | refine WL_ld inf rfl rfl rfl rfl (Blk.cell (by assumption) rfl) ?_)
      refine WL_sta inf (cs' := cl) rfl rfl rfl (by rw [hz]; rfl) (ClsR.one _ _ _ _ hR) rfl hB2 rfl ?_
      rintro w3 hB3 u3
      repeat (first | refine WL1 rfl ?_ | refine WLe rfl rfl ?_ | refine W_region ?_ | refine WL2 inf rfl ?_ | refine WL_ld inf rfl rfl rfl rfl (Blk.cell (by assumption) rfl) ?_)
      exact W_retL [.agg cl.toArray, .bool (findP (some cs) s).isSome] rfl rfl ⟨⟨_, rfl, loadVar_agg inf (by rw [hz]; rfl) hB3.cells⟩, rfl, trivial⟩ ⟨cl, rfl, u3.ext hE2 (by omega), hR⟩

theorem find_any (P : Option (List Cls)) (s : L) (pv : Value) (w : World) (hP : PrgV w pv P) :
    Calls Tryz.prog 71 #[pv, .string (mkS s)] w fun e w' => ∃ cells, e = .returned (.tuple #[.agg cells.toArray, .bool (findP P s).isSome]) ∧ Ext w w' ∧ ClsR Any_ w ((findP P s).getD zeroC) cells := find_at P s pv w w hP (Ext.rfl' w)

/-! ### chain -/
theorem len_sub : ∀ (l m : List L), l.Nodup → (∀ x ∈ l, x ∈ m) → l.length ≤ m.length
  | [], _, _, _ => Nat.zero_le _
  | a :: r, m, hn, hs => by
    rw [List.nodup_cons] at hn
    have ha : a ∈ m := hs a (by simp)
    have := len_sub r (m.erase a) hn.2 (fun x hx => by
      have hne : x ≠ a := fun e => hn.1 (e ▸ hx)
      exact (List.mem_erase_of_ne hne).2 (hs x (by simp [hx])))
    have hl := List.length_erase_of_mem ha
    have hp : 0 < m.length := List.length_pos_of_mem ha
    simp only [List.length_cons]
    omega
def chainF (P : Option (List Cls)) : Nat → List L → L → List L
  | 0, out, _ => out
  | n + 1, out, name => match findP P name with
    | some c => if out.contains name then out else chainF P n (out ++ [name]) c.super
    | none => out
def sizeP (P : Option (List Cls)) : Nat := (P.getD []).length
/-- A class's supers. -/
def chainD (P : Option (List Cls)) (name : L) : List L := chainF P (sizeP P + 1) [] name
theorem findP_mem {P : Option (List Cls)} {s : L} {c : Cls} (h : findP P s = some c) : c ∈ P.getD [] ∧ c.name = s := by
  cases P with
  | none => cases h
  | some cs =>
    have h' : cs.find? (fun c => c.name == s) = some c := h
    exact ⟨List.mem_of_find?_eq_some h', by have := List.find?_some h'; simpa using this⟩
/-- Such a row of names is no longer than the program. -/
theorem names_le {P : Option (List Cls)} {out : List L} (hn : out.Nodup) (hs : ∀ s ∈ out, (findP P s).isSome = true) : out.length ≤ sizeP P := by
  have := len_sub out ((P.getD []).map (·.name)) hn (fun x hx => by
    obtain ⟨c, hc⟩ := Option.isSome_iff_exists.1 (hs x hx)
    obtain ⟨h1, h2⟩ := findP_mem hc
    exact List.mem_map.2 ⟨c, h1, h2⟩)
  simpa [sizeP] using this
theorem enters_chain : Enters Tryz.prog 69 := enters_of Tryz.func69 (by kernel_rfl) rfl
set_option maxHeartbeats 4000000 in
theorem chain_any (P : Option (List Cls)) (name : L) (pv : Value) (w : World) (hP : PrgV w pv P) (hl : Len name) (hs : sizeP P ≤ 1000) :
    Calls Tryz.prog 69 #[pv, .string (mkS name)] w fun e w' => ∃ v, e = .returned v ∧ Ext w w' ∧ OwnR w.heap.size 9 1 w' v ((chainD P name).map strC) ∧ (∀ s ∈ chainD P name, Len s) := by
  refine calls_W (args := [pv, .string (mkS name)]) Tryz.func69 rfl rfl rfl ?_
  refine Wg rfl (W_region ?_)
  repeat (first | refine WL1 rfl ?_ | refine WLe rfl rfl ?_ | refine W_region ?_ | refine WL2 inf rfl ?_ | refine WL_ld inf rfl rfl rfl rfl (Blk.cell (by assumption) rfl) ?_)
  refine W_scope 0 (fun x : Value × L × List L => [(0, [], pv), (1, [], .string (mkS x.2.1)), (4, [], x.1)])
    (fun x W => Ext w W ∧ OwnR w.heap.size 9 1 W x.1 (x.2.2.map strC) ∧ x.2.2.Nodup ∧ (∀ s ∈ x.2.2, (findP P s).isSome = true) ∧ (∀ s ∈ x.2.2, Len s) ∧ Len x.2.1 ∧ chainD P name = chainF P (sizeP P + 1 - x.2.2.length) x.2.2 x.2.1) (fun x => sizeP P + 1 - x.2.2.length) rfl ?_ ?_
  · rintro ⟨v, nm, out⟩ W ⟨hE, hown, hnd, hfd, hlo, hln, hch⟩
    dsimp only at hown hnd hfd hlo hln hch ⊢
    have hle := names_le hnd hfd
    refine Wg rfl (W_region ?_)
    repeat (first | refine WL1 rfl ?_ | refine WLe rfl rfl ?_ | refine W_region ?_ | refine WL2 inf rfl ?_ | refine WL_ld inf rfl rfl rfl rfl (Blk.cell (by assumption) rfl) ?_)
    refine WL_call rfl rfl rfl rfl rfl enters_find rfl (find_any P nm pv _ (hP.ext hE)) ?_
    rintro e w1 ⟨cl, rfl, hE1, hR⟩
    refine ⟨_, rfl, ?_⟩
    have hz := hR.len
    repeat (first | refine WL1 rfl ?_ | refine WLe rfl rfl ?_ | refine W_region ?_ | refine WL2 inf rfl ?_ | refine WL_ld inf rfl rfl rfl rfl (Blk.cell (by assumption) rfl) ?_)
    refine WL_alloc inf rfl rfl rfl rfl rfl ?_
    rintro g w2 hg hB2 hE2
    refine WL_sta inf (cs' := cl) rfl rfl rfl (by rw [hz]; rfl) (ClsR.one _ _ _ _ hR) rfl hB2 (by rw [hz]; rfl) ?_
    rintro w3 hB3 u3
    have hE3 : Ext W w3 := u3.ext (hE1.then_ hE2) (by have := hE1.size; omega)
    have hown3 := hown.ext hE3
    have hsl : Sl StrR 1 Any_ w3 v out := hown3.sl (strEach _ _ out hlo) fun _ _ => trivial
    repeat (first | refine WL1 rfl ?_ | refine WLe rfl rfl ?_ | refine W_region ?_ | refine WL2 inf rfl ?_ | refine WL_ld inf rfl rfl rfl rfl (Blk.cell (by assumption) rfl) ?_)
    refine WL_callq rfl rfl rfl rfl rfl enters_hasStr rfl (fun _ => hasStr_any nm hsl) ?_
    repeat (first | refine WL1 rfl ?_ | refine WLe rfl rfl ?_ | refine W_region ?_ | refine WL2 inf rfl ?_ | refine WL_ld inf rfl rfl rfl rfl (Blk.cell (by assumption) rfl) ?_)
    refine W_cond rfl rfl (fun hb => ?_) (fun hb => ?_)
    · obtain ⟨hb1, hb2⟩ : (findP P nm).isSome = true ∧ out.contains nm = false := by simpa using hb
      obtain ⟨c, hc⟩ := Option.isSome_iff_exists.1 hb1
      rw [hc] at hR
      obtain ⟨iv, fv, mv, rfl, hl1, hl2, -⟩ := hR
      have hnot : nm ∉ out := by simpa using hb2
      have hnd2 : (out ++ [nm]).Nodup := by
        rw [List.nodup_append]
        refine ⟨hnd, by simp, fun a ha b hb e => ?_⟩
        simp at hb; subst hb; subst e; exact hnot ha
      have hfd2 : ∀ s ∈ out ++ [nm], (findP P s).isSome = true := fun s hs => by
        rcases List.mem_append.1 hs with h | h
        · exact hfd s h
        · simp at h; subst h; exact hb1
      have hle2 := names_le hnd2 hfd2
      simp only [List.length_append, List.length_cons, List.length_nil] at hle2
      refine Wg rfl (W_region ?_)
      repeat (first | refine WL1 rfl ?_ | refine WLe rfl rfl ?_ | refine W_region ?_ | refine WL2 inf rfl ?_ | refine WL_ld inf rfl rfl rfl rfl (Blk.cell (by assumption) rfl) ?_)
      refine WL_bsl (cs := strC nm) rfl rfl rfl rfl rfl (bs40_1 _ _) ?_
      rintro h w4 rfl hh hE4
      refine WL_app ei (ncs := [strC nm]) rfl rfl rfl rfl rfl rfl (hown3.ext hE4) hh.cells rfl (by simp [strC]) (by simp [strC, Value.oneCell']) (by simp; omega) (by have := (hE.then_ hE3).size; have := hE4.size; omega) ?_
      rintro v5 w5 hown5 hg5 hr5
      have hE5 : Ext w w5 := grown_ext hg5 ((hE.then_ hE3).then_ hE4) fun b hb => (hown.own b hb).1
      have hB5 := (hB3.ext hE4).grown hg5 ((hown3.ext hE4).ne (hB3.ext hE4) rfl)
      repeat (first | refine WL1 rfl ?_ | refine WLe rfl rfl ?_ | refine W_region ?_ | refine WL2 inf rfl ?_ | refine WL_ld inf rfl rfl rfl rfl (Blk.cell (by assumption) rfl) ?_)
      refine Wr rfl (v5, c.super, out ++ [nm]) (by simp; omega) ⟨hE5, by simpa using hown5, hnd2, hfd2, fun s hs => ?_, hl2, ?_⟩ rfl ⟨rfl, rfl, rfl, trivial⟩
      · rcases List.mem_append.1 hs with h | h
        · exact hlo s h
        · simp at h; subst h; exact hln
      · rw [hch, show sizeP P + 1 - out.length = (sizeP P + 1 - (out ++ [nm]).length) + 1 by simp; omega]
        conv => lhs; unfold chainF
        rw [hc]
        simp only [hb2]
        rfl
    · have hend : chainD P name = out := by
        rw [hch, show sizeP P + 1 - out.length = (sizeP P - out.length) + 1 by omega]
        unfold chainF
        cases hc : findP P nm with
        | none => rfl
        | some c =>
          rw [hc] at hb
          have : out.contains nm = true := by simpa using hb
          simp only [this, if_true]
      refine Wg rfl (W_region ?_)
      repeat (first | refine WL1 rfl ?_ | refine WLe rfl rfl ?_ | refine W_region ?_ | refine WL2 inf rfl ?_ | refine WL_ld inf rfl rfl rfl rfl (Blk.cell (by assumption) rfl) ?_)
      exact W_ret1 rfl rfl rfl ⟨v, rfl, hE.then_ hE3, by rw [hend]; exact hown3, by rw [hend]; exact hlo⟩
  · intro H
    refine W_seq (W_label (WN_seq (W_sub _ rfl ?_ (H (.slice none 0 0, name, []) w ⟨Ext.rfl' w, OwnR.nil _ _ _ _, by simp, by simp, by simp, hl, rfl⟩))))
    exact ⟨rfl, rfl, rfl, trivial⟩
end Go.Proofs.YtljcmmmajjmpoaaGreatDoor
