/- lanternlaw8.awake, walked. -/
import Derived.Test.YtoalmjciodlkaaaGreatAwaka
namespace Go.Proofs.YtoalmjciodlkaaaGreat
open Go.RowKit Sp

theorem oneSl {α : Type} {R : Rep α} {z : Nat} {B : Nat → Prop} {w : World} {h : Nat} {t : TypeId} {x : α} {cs : List Value} (hb : Blk w h t cs) (hR : R B w x cs) (hz : cs.length = z) (hB : B h) : Sl R z B w (.slice (some ⟨h, 0, none⟩) 1 1) [x] := by
  refine ⟨_, _, rfl, Nat.le_refl _, by simp [maxLen], fun i y hy => ?_⟩
  have hi : i = 0 := by
    have := (List.getElem?_eq_some_iff.1 hy).1
    simp at this; exact this
  subst hi
  simp at hy; subst hy
  exact ⟨cs, hz, hR, fun j v hj => ⟨by rw [add_block]; exact hB, by have := hb.cells j v hj; simpa [add_add] using this⟩⟩
theorem progD_small {l : List Cls} (hs : ∀ c ∈ l, Small c) : ∀ o n d m, methD (some (progD l)) o n d = some m → m.code.length ≤ 200 ∧ m.hand.length ≤ 20 := by
  intro o n d m h
  have hb : (builtinD.all fun c => c.methods.all fun m => decide (m.code.length ≤ 200 ∧ m.hand.length ≤ 20)) = true := by decide +kernel
  unfold methD at h
  have hm := List.mem_of_find?_eq_some h
  cases hf : findP (some (progD l)) o with
  | none => rw [hf] at hm; simp [zeroC] at hm
  | some c =>
    rw [hf] at hm
    have hc := (findP_mem hf).1
    rcases List.mem_append.1 ((progD_perm l).mem_iff.1 hc) with h1 | h1
    · have h2 := List.all_eq_true.1 (List.all_eq_true.1 hb c h1) m hm
      simpa using h2
    · exact (hs c h1).2.2.2 m hm
theorem awake_small : ∀ c ∈ [awakeA], Small c := by
  intro c hc
  rw [List.mem_singleton] at hc
  subst hc
  exact checkC_small awake_check
theorem awake_rules : firstBad (rulesD (some awakeP)) [awakeA] = none := by
  have h : (rulesD (some awakeP)).all (fun k => k awakeA) = true := by decide +kernel
  unfold firstBad
  rw [List.findSome?_eq_none_iff]
  intro k hk
  have := List.all_eq_true.1 h k hk
  simp [this]
theorem awake_link : linkD [awakeA] = .ok awakeP := by
  unfold linkD
  rw [if_neg (by simp)]
  have h1 : ([awakeA].find? fun c => checkC c != 0) = none := by simp [awake_check]
  rw [h1]
  dsimp only
  rw [awake_doubled]
  dsimp only
  rw [awake_prog, awake_rules]
theorem awake_has : hasD (some awakeP) [65] runS voidS = some [65] := by decide +kernel
theorem awake_fit : FitP (some awakeP) := by rw [← awake_prog]; exact fitP_prog (by simp) awake_small
theorem bldMa (n d : ByteArray) (k : Int) (A : Option Addr) (m c : Nat) (w : World) : (Instr.build 33 [(0, Value.string n), (1, .string d), (5, .int .i64 k), (6, .slice A m c)].toArray).run Tryz.prog w = .ok (.agg [.string n, .string d, .bool false, .bool false, .int .i64 0, .int .i64 k, .slice A m c, .slice none 0 0].toArray) w := by kernel_rfl
theorem bldCa (n s : ByteArray) (A A' : Option Addr) (m c m' c' : Nat) (w : World) : (Instr.build 52 [(0, Value.string n), (1, .string s), (4, .slice A m c), (6, .slice A' m' c')].toArray).run Tryz.prog w = .ok (.agg [.string n, .string s, .bool false, .bool false, .slice A m c, .slice none 0 0, .slice A' m' c'].toArray) w := by kernel_rfl
/-- What link.Classes makes of the smallest class. -/
theorem enters_awake8 : Enters Tryz.prog 7 := enters_of Tryz.func7 (by kernel_rfl) rfl
set_option maxRecDepth 100000 in
set_option maxHeartbeats 4000000 in
theorem awake8_any (w : World) : Calls Tryz.prog 7 #[] w fun e w' => e = .returned (.bool true) ∧ Ext w w' := by
  refine calls_W (args := []) Tryz.func7 rfl rfl rfl ?_
  refine Wg rfl (W_region ?_)
  repeat (first | refine WL1 rfl ?_ | refine WLe rfl rfl ?_ | refine W_region ?_ | refine WL2 inf rfl ?_ | refine WL_ld inf rfl rfl rfl rfl (Blk.cell (by assumption) rfl) ?_)
  refine WL_bsl (cs := strC taskS) rfl rfl rfl rfl rfl (bs48_1 _ _) ?_
  rintro h1 w1 e1 hh1 hE1
  refine WL_bld rfl rfl rfl rfl bld23_ret ?_
  refine WL_bsl (cs := Ins.cs retI) rfl rfl rfl rfl rfl (bs30_1 _ _ _ _ _ _ _) ?_
  rintro h2 w2 e2 hh2 hE2
  refine WL_bld rfl rfl rfl rfl (bldMa _ _ _ _ _ _) ?_
  refine WL_bsl (cs := Mth.cs ⟨runS, voidS, false, false, 0, 1, [retI], []⟩ (.slice (some ⟨h2, 0, none⟩) 1 1) (.slice none 0 0)) rfl rfl rfl rfl rfl (bs50_1 _ _ _ _ _ _ _ _ _) ?_
  rintro h3 w3 e3 hh3 hE3
  refine WL_bld rfl rfl rfl rfl (bldCa _ _ _ _ _ _ _ _) ?_
  refine WL_bsl (cs := Cls.cs awakeA (.slice (some ⟨h1, 0, none⟩) 1 1) (.slice none 0 0) (.slice (some ⟨h3, 0, none⟩) 1 1)) rfl rfl rfl rfl rfl (bsCls (Cls.cs awakeA (.slice (some ⟨h1, 0, none⟩) 1 1) (.slice none 0 0) (.slice (some ⟨h3, 0, none⟩) 1 1)) _ _ _ _ _ _ _ rfl _) ?_
  rintro h4 w4 e4 hh4 hE4
  replace hh1 := ((hh1.ext hE2).ext hE3).ext hE4
  replace hh2 := (hh2.ext hE3).ext hE4
  replace hh3 := hh3.ext hE4
  have hE := ((hE1.then_ hE2).then_ hE3).then_ hE4
  have hsl : Sl ClsR 7 (fun k => k < w4.heap.size) w4 (.slice (some ⟨h4, 0, none⟩) 1 1) [awakeA] := by
    refine oneSl hh4 ⟨_, _, _, rfl, by decide, by decide, ?_, Sl.nil _ _ _ _, ?_⟩ rfl hh4.lt
    · exact oneSl hh1 ⟨rfl, by decide⟩ rfl hh1.lt
    · refine oneSl hh3 ⟨_, _, rfl, by decide, by decide, ?_, Sl.nil _ _ _ _⟩ rfl hh3.lt
      exact oneSl hh2 ⟨rfl, by decide, by decide, by decide⟩ rfl hh2.lt
  refine WL_call rfl rfl rfl rfl rfl enters_classes rfl (classes_any [awakeA] _ w4 hsl fun _ h => h) ?_
  rintro e w5 ⟨hE5, hL⟩
  rw [awake_link] at hL
  obtain ⟨q, rfl, hPA⟩ := hL
  refine ⟨_, rfl, ?_⟩
  have hP : PrgV w5 (.pointer (some ⟨q, 0, none⟩)) (some awakeP) := ⟨q, rfl, hPA⟩
  repeat (first | refine WL1 rfl ?_ | refine WLe rfl rfl ?_ | refine W_region ?_ | refine WL2 inf rfl ?_ | refine WL_ld inf rfl rfl rfl rfl (Blk.cell (by assumption) rfl) ?_)
  refine WL_call rfl rfl rfl rfl rfl enters_dispatch rfl (dispatch_any (some awakeP) [65] runS voidS _ w5 hP (by decide) awake_fit (fun o m h => by rw [← awake_prog] at h; exact progD_small awake_small o _ _ m h)) ?_
  rintro e w6 ⟨cells, rfl, hE6, hR⟩
  refine ⟨_, rfl, ?_⟩
  have hz := hR.len
  have hone := MthR.one _ _ _ _ hR
  have hD : dispD (some awakeP) [65] runS voidS = some ([65], (methD (some awakeP) [65] runS voidS).getD zeroM) := by
    unfold dispD
    rw [awake_has]
    rfl
  rw [hD]
  repeat (first | refine WL1 rfl ?_ | refine WLe rfl rfl ?_ | refine W_region ?_ | refine WL2 inf rfl ?_ | refine WL_ld inf rfl rfl rfl rfl (Blk.cell (by assumption) rfl) ?_)
  refine WL_alloc inf rfl rfl rfl rfl rfl ?_
  rintro g5 w7 hg5 hB7 hE7
  repeat (first | refine WL1 rfl ?_ | refine WLe rfl rfl ?_ | refine W_region ?_ | refine WL2 inf rfl ?_ | refine WL_ld inf rfl rfl rfl rfl (Blk.cell (by assumption) rfl) ?_)
  refine WL_sta inf (cs' := cells) rfl rfl rfl (by rw [hz]; rfl) hone rfl hB7 (by rw [hz]; rfl) ?_
  rintro w8 hB8 u8
  have hE8 : Ext w w8 := u8.ext (((hE.then_ hE5).then_ hE6).then_ hE7) (by have := ((hE.then_ hE5).then_ hE6).size; omega)
  repeat (first | refine WL1 rfl ?_ | refine WLe rfl rfl ?_ | refine W_region ?_ | refine WL2 inf rfl ?_ | refine WL_ld inf rfl rfl rfl rfl (Blk.cell (by assumption) rfl) ?_)
  refine WL_callq rfl rfl rfl rfl rfl enters_native rfl (fun _ => native_any sysS _) ?_
  repeat (first | refine WL1 rfl ?_ | refine WLe rfl rfl ?_ | refine W_region ?_ | refine WL2 inf rfl ?_ | refine WL_ld inf rfl rfl rfl rfl (Blk.cell (by assumption) rfl) ?_)
  refine WL_callq rfl rfl rfl rfl rfl enters_native rfl (fun _ => native_any [65] _) ?_
  repeat (first | refine WL1 rfl ?_ | refine WLe rfl rfl ?_ | refine W_region ?_ | refine WL2 inf rfl ?_ | refine WL_ld inf rfl rfl rfl rfl (Blk.cell (by assumption) rfl) ?_)
  exact W_ret1 rfl rfl rfl ⟨ret_bool (by decide), hE8⟩
end Go.Proofs.YtoalmjciodlkaaaGreat
