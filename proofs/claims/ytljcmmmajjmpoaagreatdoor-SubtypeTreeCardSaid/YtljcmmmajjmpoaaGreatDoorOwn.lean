/- Stores into a row of the call's own; link.code. -/
import Derived.Test.YtljcmmmajjmpoaaGreatDoorCheck
namespace Go.Proofs.YtljcmmmajjmpoaaGreatDoor
open Go.RowKit Sp

theorem flatten_split {z : Nat} : ∀ {css : List (List Value)} {i : Nat} {cs : List Value}, (∀ cs ∈ css, cs.length = z) → css[i]? = some cs → ∃ A D, A.length = i * z ∧ css.flatten = A ++ cs ++ D ∧ ∀ cs', (css.set i cs').flatten = A ++ cs' ++ D
  | c :: r, 0, cs, _, h => ⟨[], r.flatten, by simp, by simp at h; simp [h], fun cs' => by simp⟩
  | c :: r, i + 1, cs, hz, h => by
    obtain ⟨A, D, h1, h2, h3⟩ := flatten_split (css := r) (i := i) (cs := cs) (fun c' hc' => hz c' (by simp [hc'])) (by simpa using h)
    exact ⟨c ++ A, D, by rw [List.length_append, h1, hz c (by simp), Nat.add_mul]; omega, by simp [h2], fun cs' => by simp [h3]⟩
  | [], _, _, _, h => by simp at h
theorem add_lit0 (g k : Nat) : (⟨g, 0, none⟩ : Addr).add k = ⟨g, k, none⟩ := by unfold Addr.add; split <;> simp_all
/-- What is stored into an element of a row of the call's own. -/
def putAt (cs : List Value) (o : Nat) (vs : List Value) : List Value := cs.take o ++ vs ++ cs.drop (o + vs.length)
theorem store_own {P : Program} {base e z g m c : Nat} {w : World} {css : List (List Value)} (h : OwnR base e z w (.slice (some ⟨g, 0, none⟩) m c) css) {i o : Nat} {cs vs : List Value} (hi : css[i]? = some cs) (ho : o + vs.length ≤ z) (h1 : ∀ v ∈ vs, v.oneCell' = true) :
    ∃ w1, (storeCells (((⟨g, 0, none⟩ : Addr).add (i * z)).add o) vs).run P w = .ok () w1 ∧ OwnR base e z w1 (.slice (some ⟨g, 0, none⟩) m c) (css.set i (putAt cs o vs)) ∧ Upd g w w1 := by
  obtain ⟨⟨hl, h2⟩, h3⟩ := h
  have hlt : i < css.length := (List.getElem?_eq_some_iff.1 hi).1
  have hcs : cs.length = z := h3 cs (List.mem_of_getElem? hi)
  rcases h2 with ⟨_, h0⟩ | ⟨g', cap, cur, heq, h5, h6, h7, h8, h9, h10⟩
  · omega
  cases heq
  obtain ⟨A, D, hA, hf, hset⟩ := flatten_split h3 hi
  have hcur : cur.toList = A ++ cs ++ D ++ cur.toList.drop (css.length * z) := by
    rw [← hf, ← h10, List.take_append_drop]
  have hb : Blk w g e cur.toList := by unfold Blk; simpa using h6
  have hst := run_storeCells_at (P := P) g (i * z + o) e vs 0 cur w h6 (by
    have : (css.length) * z ≤ c * z := Nat.mul_le_mul_right _ h7
    have h11 : (i + 1) * z ≤ css.length * z := Nat.mul_le_mul_right _ hlt
    rw [Nat.add_mul] at h11
    simp; omega) h1
  have hpl : (putAt cs o vs).length = z := by unfold putAt; simp; omega
  have hnew : cur.toList.take (i * z + o + 0) ++ vs ++ cur.toList.drop (i * z + o + 0 + vs.length) = A ++ putAt cs o vs ++ D ++ cur.toList.drop (css.length * z) := by
    generalize cur.toList.drop (css.length * z) = R at hcur
    rw [hcur, ← hA]
    unfold putAt
    simp only [Nat.add_zero, List.append_assoc]
    rw [List.take_append, List.take_of_length_le (l := A) (by omega), show A.length + o - A.length = o by omega, List.take_append_of_le_length (by omega)]
    rw [show A.length + o + vs.length = A.length + (o + vs.length) by omega, List.drop_append, List.drop_eq_nil_of_le (show A.length ≤ A.length + (o + vs.length) by omega), show A.length + (o + vs.length) - A.length = o + vs.length by omega, List.drop_append_of_le_length (by omega)]
    simp
  rw [hnew] at hst
  obtain ⟨hB, hU⟩ := upd_setRow w g e cur.toList (A ++ putAt cs o vs ++ D ++ cur.toList.drop (css.length * z)) hb
  refine ⟨_, ?_, ⟨⟨?_, .inr ⟨g, c, _, by simp, h5, hB, by simpa using h7, h8, ?_, ?_⟩⟩, ?_⟩, hU⟩
  · rw [add_add]
    rw [add_lit0]
    exact hst
  · rw [hset, List.length_set, ← hl, hf]; simp [hpl, hcs]
  · have := congrArg List.length hcur
    simp only [List.length_append, Array.length_toList, hcs] at this
    simp only [List.size_toArray, List.length_append, hpl]
    omega
  · rw [hset, List.length_set]
    have h12 : (A ++ putAt cs o vs ++ D).length = css.length * z := by rw [← hl, hf]; simp [hpl, hcs]
    show List.take _ ((A ++ putAt cs o vs ++ D) ++ _) = _
    exact List.take_left' h12
  · intro cs' hcs'
    rcases List.mem_or_eq_of_mem_set hcs' with h | rfl
    · exact h3 cs' h
    · exact hpl
section
variable {P : Program} {n : Nat} {fr : Fr} {w : World} {k : Kt} {ops : Array Oper} {rest : List Oper}
/-- A store of one cell into an element of a row of the call's own. -/
theorem WL_str (I : Info P) {p : List (Nat × Bool)} {x y : Operand} {t ty : TypeId} {pos : String} {aft : Array Edge} {gd : Option (Nat × Bool)} {base e z g m c i o : Nat} {v : Value} {cs : List Value} {css : List (List Value)}
    (hp : pathOf ops fr ⟨none, .store t x y, ty, pos, aft, gd⟩ = some p) (hx : gv fr p x = some (.pointer (some (((⟨g, 0, none⟩ : Addr).add (i * z)).add o)))) (hy : gv fr p y = some v) (ht : I.sca t = true) (h1 : v.oneCell' = true) (hsat : satB fr p = true)
    (hown : OwnR base e z w (.slice (some ⟨g, 0, none⟩) m c) css) (hi : css[i]? = some cs) (ho : o < z)
    (h : ∀ w1, OwnR base e z w1 (.slice (some ⟨g, 0, none⟩) m c) (css.set i (putAt cs o [v])) → Upd g w w1 → WL P n ops rest fr w1 k) : WL P n ops (⟨none, .store t x y, ty, pos, aft, gd⟩ :: rest) fr w k := by
  obtain ⟨hx1, hx2⟩ := gv_ok hx
  obtain ⟨hy1, hy2⟩ := gv_ok hy
  have hcell : v.cells = #[v] := by cases v <;> first | rfl | cases h1
  obtain ⟨w1, hst, ho1, hu⟩ := store_own (P := P) hown hi (o := o) (vs := [v]) (by simp; omega) (by simpa using h1)
  refine WL_do hp rfl (by simpa [Op.operands] using okO_two hx1 hy1) hsat rfl (w' := w1) ?_ (h _ ho1 hu)
  simp [execOp, hx2, hy2, Instr.storeAt, Instr.sureAddr, storeVar, hcell, (I.sca_ok t ht w).2, hst]
/-- A store of a whole element of a row of the call's own. -/
theorem WL_stra (I : Info P) {p : List (Nat × Bool)} {x y : Operand} {t ty : TypeId} {pos : String} {aft : Array Edge} {gd : Option (Nat × Bool)} {base e z g m c i : Nat} {cs cs' : List Value} {css : List (List Value)}
    (hp : pathOf ops fr ⟨none, .store t x y, ty, pos, aft, gd⟩ = some p) (hx : gv fr p x = some (.pointer (some ((⟨g, 0, none⟩ : Addr).add (i * z))))) (hy : gv fr p y = some (.agg cs'.toArray)) (ht : I.aggZ t = some cs'.length) (h1 : ∀ v ∈ cs', v.oneCell' = true) (hsat : satB fr p = true)
    (hown : OwnR base e z w (.slice (some ⟨g, 0, none⟩) m c) css) (hi : css[i]? = some cs) (ho : cs'.length = z)
    (h : ∀ w1, OwnR base e z w1 (.slice (some ⟨g, 0, none⟩) m c) (css.set i cs') → Upd g w w1 → WL P n ops rest fr w1 k) : WL P n ops (⟨none, .store t x y, ty, pos, aft, gd⟩ :: rest) fr w k := by
  obtain ⟨hx1, hx2⟩ := gv_ok hx
  obtain ⟨hy1, hy2⟩ := gv_ok hy
  obtain ⟨w1, hst, ho1, hu⟩ := store_own (P := P) hown hi (o := 0) (vs := cs') (by omega) h1
  have hz := hown.2 cs (List.mem_of_getElem? hi)
  have hpa : putAt cs 0 cs' = cs' := by unfold putAt; simp; omega
  rw [hpa] at ho1
  have h0 : ((⟨g, 0, none⟩ : Addr).add (i * z)).add 0 = (⟨g, 0, none⟩ : Addr).add (i * z) := by rw [add_add]; rfl
  rw [h0] at hst
  refine WL_do hp rfl (by simpa [Op.operands] using okO_two hx1 hy1) hsat rfl (w' := w1) ?_ (h _ ho1 hu)
  simp [execOp, hx2, hy2, Instr.storeAt, Instr.sureAddr, storeVar, Value.cells, (I.aggZ_ok t _ ht w).2, hst]
end

def retI : Ins := ⟨36, 0, 0, [], [], []⟩
/-- link.code. -/
def codeM (name d : L) (s : Bool) : Mth := ⟨name, d, s, false, 0, leastM ⟨name, d, s, false, 0, 0, [], []⟩, [retI], []⟩
theorem bld23_ret (w : World) : (Instr.build 119 [(0, Value.int .i64 36)].toArray).run Tryz.prog w = .ok (.agg (Ins.cs retI).toArray) w := by kernel_rfl
theorem bld33_code (n d : ByteArray) (s : Bool) (A : Option Addr) (m c : Nat) (w : World) : (Instr.build 86 [(0, Value.string n), (1, .string d), (2, .bool s), (6, .slice A m c)].toArray).run Tryz.prog w = .ok (.agg [.string n, .string d, .bool s, .bool false, .int .i64 0, .int .i64 0, .slice A m c, .slice none 0 0].toArray) w := by kernel_rfl
theorem insSl {w : World} {h : Nat} {x : Ins} (hb : Blk w h 119 (Ins.cs x)) (hx : Ins.ok x) : Sl InsR 6 (fun k => k = h) w (.slice (some ⟨h, 0, none⟩) 1 1) [x] := by
  refine ⟨_, _, rfl, Nat.le_refl _, by simp [maxLen], fun i y hy => ?_⟩
  have hi : i = 0 := by
    have := (List.getElem?_eq_some_iff.1 hy).1
    simp at this; exact this
  subst hi
  simp at hy; subst hy
  exact ⟨Ins.cs x, rfl, ⟨rfl, hx⟩, fun j v hj => ⟨by rw [add_block], by have := hb.cells j v hj; simpa [add_add] using this⟩⟩
theorem enters_code : Enters Tryz.prog 88 := enters_of Tryz.func88 (by kernel_rfl) rfl
theorem code_any (name d : L) (s : Bool) (w : World) (hn : Len name) (hd : Len d) : Calls Tryz.prog 88 #[.string (mkS name), .string (mkS d), .bool s] w fun e w' => ∃ h, e = .returned (.agg (Mth.cs (codeM name d s) (.slice (some ⟨h, 0, none⟩) 1 1) (.slice none 0 0)).toArray) ∧ Ext w w' ∧ w.heap.size ≤ h ∧ h < w'.heap.size ∧
    MthR (fun k => k = h) w' (codeM name d s) (Mth.cs (codeM name d s) (.slice (some ⟨h, 0, none⟩) 1 1) (.slice none 0 0)) := by
  refine calls_W (args := [.string (mkS name), .string (mkS d), .bool s]) Tryz.func88 rfl rfl rfl ?_
  refine Wg rfl (W_region ?_)
  refine WL_alloc inf rfl rfl rfl rfl rfl ?_
  rintro g6 w1 hg6 hB6 hE1
  repeat (first | refine WL1 rfl ?_ | refine WLe rfl rfl ?_ | refine W_region ?_ | refine WL2 inf rfl ?_ | refine WL_ld inf rfl rfl rfl rfl (Blk.cell (by assumption) rfl) ?_)
  refine WL_bld rfl rfl rfl rfl bld23_ret ?_
  refine WL_bsl (cs := Ins.cs retI) rfl rfl rfl rfl rfl (bs83_1 _ _ _ _ _ _ _) ?_
  rintro h w2 hh hh2 hE2
  refine WL_bld rfl rfl rfl rfl (bld33_code _ _ _ _ _ _) ?_
  refine WL_alloc inf rfl rfl rfl rfl rfl ?_
  rintro g7 w3 hg7 hB7 hE3
  have s1 := hE1.size
  have s2 := hE2.size
  have s3 := hE3.size
  have l6 := hB6.lt
  have lh := hh2.lt
  refine WL_sta inf (cs' := Mth.cs ⟨name, d, s, false, 0, 0, [], []⟩ (.slice (some ⟨h, 0, none⟩) 1 1) (.slice none 0 0)) rfl rfl rfl rfl (Mth.one _ rfl rfl) rfl hB7 rfl ?_
  rintro w4 hB7' u4
  replace hB6 := u4.blk ((hB6.ext hE2).ext hE3) (by omega)
  replace hh2 := u4.blk (hh2.ext hE3) (by omega)
  have e4 : Ext w w4 := u4.ext ((hE1.then_ hE2).then_ hE3) (by omega)
  have s4 := u4.size
  repeat (first | refine WL1 rfl ?_ | refine WLe rfl rfl ?_ | refine W_region ?_ | refine WL2 inf rfl ?_ | refine WL_ld inf rfl rfl rfl rfl (Blk.cell (by assumption) rfl) ?_)
  refine WL_lda inf (cs := Mth.cs ⟨name, d, s, false, 0, 0, [], []⟩ (.slice (some ⟨h, 0, none⟩) 1 1) (.slice none 0 0)) rfl rfl rfl rfl hB7'.cells ?_
  refine WL_call rfl rfl rfl rfl rfl enters_least rfl (least_any ⟨name, d, s, false, 0, 0, [], []⟩ _ _ _ hd) ?_
  rintro e w5 ⟨rfl, hE5⟩
  refine ⟨_, rfl, ?_⟩
  replace hB6 := hB6.ext hE5
  replace hh2 := hh2.ext hE5
  replace hB7' := hB7'.ext hE5
  have s5 := hE5.size
  repeat (first | refine WL1 rfl ?_ | refine WLe rfl rfl ?_ | refine W_region ?_ | refine WL2 inf rfl ?_ | refine WL_ld inf rfl rfl rfl rfl (Blk.cell (by assumption) rfl) ?_)
  refine WL_st (g := g7) (i := 5) inf rfl rfl rfl rfl rfl rfl hB7' rfl ?_
  rintro w6 hB7'' u6
  replace hB6 := u6.blk hB6 (by omega)
  replace hh2 := u6.blk hh2 (by omega)
  repeat (first | refine WL1 rfl ?_ | refine WLe rfl rfl ?_ | refine W_region ?_ | refine WL2 inf rfl ?_ | refine WL_ld inf rfl rfl rfl rfl (Blk.cell (by assumption) rfl) ?_)
  refine WL_lda inf (cs := Mth.cs (codeM name d s) (.slice (some ⟨h, 0, none⟩) 1 1) (.slice none 0 0)) rfl rfl rfl rfl hB7''.cells ?_
  refine WL_sta inf (cs' := Mth.cs (codeM name d s) (.slice (some ⟨h, 0, none⟩) 1 1) (.slice none 0 0)) rfl rfl rfl rfl (Mth.one _ rfl rfl) rfl hB6 rfl ?_
  rintro w7 hB6' u7
  replace hh2 := u7.blk hh2 (by omega)
  repeat (first | refine WL1 rfl ?_ | refine WLe rfl rfl ?_ | refine W_region ?_ | refine WL2 inf rfl ?_ | refine WL_ld inf rfl rfl rfl rfl (Blk.cell (by assumption) rfl) ?_)
  refine W_retL [.agg (Mth.cs (codeM name d s) (.slice (some ⟨h, 0, none⟩) 1 1) (.slice none 0 0)).toArray] rfl rfl ⟨⟨_, rfl, loadVar_agg inf rfl hB6'.cells⟩, trivial⟩ ⟨h, rfl, u7.ext (u6.ext (e4.then_ hE5) (by omega)) (by omega), by omega, hh2.lt, _, _, rfl, hn, hd, insSl hh2 ⟨by simp [retI], by simp [retI], by simp [retI]⟩, Sl.nil _ _ _ _⟩
end Go.Proofs.YtljcmmmajjmpoaaGreatDoor
