/- The statement 'ResolveNothing': for every input it returns true, and each argument reads as it read before. No condition. -/
import Derived.Test.YtoalmjciodlkaaaGreatRows
import Derived.Test.YtoalmjciodlkaaaGreatLawRN
import Derived.Test.YtoalmjciodlkaaaGreatRead
import Derived.WalkKit
namespace Go.Proofs.YtoalmjciodlkaaaGreat.resolveNothing
open Go.ChangeShapes Go.WideShapes Go.ChangeAt Go.RowKit Sp
open Go.ChangeMaps (open_string shut_string)
theorem own : ownKnob Tryz.prog.godebug = none := by kernel_rfl
theorem laidOut : laidOutB Tryz.prog = true := by kernel_rfl
set_option maxRecDepth 100000 in
theorem lifted (os : Os) (started : os.Started) (H : Type) (enc : TypeId × Value → H) :
    ReturnsInHanded {} Tryz.checked os 3 .any (Rows.resolveNothingSpec.pre6 enc Tryz.prog Tryz.f3 Rows.resolveNothingRow.domain false) (Rows.resolveNothingSpec.post enc Tryz.prog Tryz.f3 false true false false) := by
  refine returnsInHanded_of_change_sized (C := Tryz.checked) own started (by kernel_rfl) Tryz.func3
    (ChangeSpec.witness6 (enc := enc) (C := Tryz.checked) false ⟨#[], #[.string ByteArray.empty, .string ByteArray.empty, .string ByteArray.empty, .agg #[.int .i64 0, .int .i64 0, .int .i64 0, .string ByteArray.empty, .string ByteArray.empty, .string ByteArray.empty]], []⟩ 8 (by kernel_rfl) (by kernel_rfl) (by kernel_rfl) (by kernel_rfl)) ?_
  intro W base args ds gs before hval0 hW hcnd hsz0 _
  have hval : ∀ (j : Nat) t v, Tryz.f3.params[j]? = some t → args[j]? = some v → Value.okWide Tryz.prog W .any base t v := hval0
  have hW' := hW
  obtain ⟨p, q, hA0, hV, rfl, hfz, hnd⟩ := hW
  have hA : DataW.TrodAll enc Tryz.prog W 0 (fun _ => true) true Tryz.f3.params.toList args.toList ds p := hA0
  rw [Tryz.params3] at hA hval
  obtain ⟨v0, vs0, d0, ds0, p0, q0, hargs, rfl, rfl, h0, r0⟩ := trodAll_cons hA
  obtain ⟨v1, vs1, d1, ds1, p1, q1, rfl, rfl, rfl, h1, r1⟩ := trodAll_cons r0
  obtain ⟨v2, vs2, d2, ds2, p2, q2, rfl, rfl, rfl, h2, r2⟩ := trodAll_cons r1
  obtain ⟨v3, vs3, d3, ds3, p3, q3, rfl, rfl, rfl, h3, r3⟩ := trodAll_cons r2
  obtain ⟨rfl, rfl, rfl⟩ := trodAll_nil r3
  obtain rfl : args = #[v0, v1, v2, v3] := by cases args; simp_all
  obtain ⟨rfl, rfl⟩ := trodVars_none hV
  have k0 := h0
  have lt0 : ∀ x ∈ p0, x.block < W.heap.size := by obtain ⟨m, hm⟩ := k0; exact DataW.trod_lt m _ _ _ hm
  obtain ⟨a0, e0, l0⟩ : ∃ l : L, v0 = .string (mkS l) ∧ Len l := by
    obtain ⟨s, rfl, _, _, y⟩ := open_string Tryz.underlying9 (hval 0 9 v0 rfl rfl) h0
    refine ⟨s.data.toList, rfl, ?_⟩
    rw [size_len] at y
    simp only [maxLen] at y
    exact y
  have k1 := h1
  have lt1 : ∀ x ∈ p1, x.block < W.heap.size := by obtain ⟨m, hm⟩ := k1; exact DataW.trod_lt m _ _ _ hm
  obtain ⟨a1, e1, l1⟩ : ∃ l : L, v1 = .string (mkS l) ∧ Len l := by
    obtain ⟨s, rfl, _, _, y⟩ := open_string Tryz.underlying9 (hval 1 9 v1 rfl rfl) h1
    refine ⟨s.data.toList, rfl, ?_⟩
    rw [size_len] at y
    simp only [maxLen] at y
    exact y
  have k2 := h2
  have lt2 : ∀ x ∈ p2, x.block < W.heap.size := by obtain ⟨m, hm⟩ := k2; exact DataW.trod_lt m _ _ _ hm
  obtain ⟨a2, e2, l2⟩ : ∃ l : L, v2 = .string (mkS l) ∧ Len l := by
    obtain ⟨s, rfl, _, _, y⟩ := open_string Tryz.underlying9 (hval 2 9 v2 rfl rfl) h2
    refine ⟨s.data.toList, rfl, ?_⟩
    rw [size_len] at y
    simp only [maxLen] at y
    exact y
  have k3 := h3
  have lt3 : ∀ x ∈ p3, x.block < W.heap.size := by obtain ⟨m, hm⟩ := k3; exact DataW.trod_lt m _ _ _ hm
  obtain ⟨x3, e3, l3⟩ : ∃ x : Ins, v3 = .agg (Ins.cs x).toArray ∧ Ins.ok x := by
    obtain ⟨cs, rfl, f, hf⟩ := open_agg Tryz.underlying23 (hval 3 23 v3 rfl rfl) h3
    obtain ⟨x, rfl, hx⟩ := trodIns hf
    exact ⟨x, rfl, hx⟩
  clear hA0 hval0 hsz0
  subst e0
  subst e1
  subst e2
  subst e3
  refine (law_any a0 a1 a2 x3 W l0 l1 l2 l3).mono fun e W' ⟨he, bel⟩ => ?_
  subst he
  exact ⟨_, rfl, _, _, _, [], _, [], hW', trodAll_mk1 (shut_bool Tryz.underlying4 _), (trodAll_cons_mk (Below.trod laidOut (by kernel_rfl) (of_decide_eq_true (by kernel_rfl)) k0 bel lt0) (trodAll_cons_mk (Below.trod laidOut (by kernel_rfl) (of_decide_eq_true (by kernel_rfl)) k1 bel lt1) (trodAll_cons_mk (Below.trod laidOut (by kernel_rfl) (of_decide_eq_true (by kernel_rfl)) k2 bel lt2) (trodAll_cons_mk (Below.trod laidOut (by kernel_rfl) (of_decide_eq_true (by kernel_rfl)) k3 bel lt3) trodAll_mk0)))), rfl, bel.frame _, fun h => by cases h⟩
theorem over : Rows.resolveNothingRow.holds Tryz.pinned (OpenSpec.ofChange Rows.resolveNothingSpec) :=
  OpenClaim.holds_of_wide 3 Tryz.f3 rfl rfl rfl rfl rfl rfl rfl ⟨rfl, rfl, rfl, rfl, rfl⟩ rfl rfl rfl rfl rfl (by kernel_rfl) Tryz.func3 (by kernel_rfl)
    (of_decide_eq_true (by kernel_rfl)) (by unfold Func.isWrapper; first | (rw [if_pos (by decide +kernel)]; kernel_rfl) | (rw [if_neg (by decide +kernel)]; exact ⟨rfl, rfl⟩))
    (fun os started H enc _ => lifted os started H enc)
theorem proved : Rows.ResolveNothingSaid := over
end Go.Proofs.YtoalmjciodlkaaaGreat.resolveNothing
namespace Go.Proofs.YtoalmjciodlkaaaGreat
/-- The row. -/
theorem resolveNothing_holds : Rows.ResolveNothingSaid := resolveNothing.proved
#print axioms resolveNothing_holds
end Go.Proofs.YtoalmjciodlkaaaGreat
