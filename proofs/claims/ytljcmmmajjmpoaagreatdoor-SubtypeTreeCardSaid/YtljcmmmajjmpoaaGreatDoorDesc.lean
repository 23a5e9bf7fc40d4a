/- The contracts of package desc: names and types. -/
import Derived.Test.YtljcmmmajjmpoaaGreatDoorRxa
import Derived.Test.YtljcmmmajjmpoaaGreatDoorShelf
namespace Go.Proofs.YtljcmmmajjmpoaaGreatDoor
open Go.RowKit Sp

theorem tS : Tryz.prog.underlying 9 = some .string := Tryz.underlying9
def letterB (c : Nat) : Bool := decide (97 ≤ c) && decide (c ≤ 122) || decide (65 ≤ c) && decide (c ≤ 90) || c == 95
theorem nameFrom_iff (l : L) : nameFrom 0 l = true ↔ ∀ (k : Nat), k < l.length → okC (byteAt l k) k = true := by
  constructor
  · intro h k hk
    rcases Bool.eq_false_or_eq_true (okC (byteAt l k) k) with h1 | h1
    · exact h1
    · rw [nameFrom_no l 0 k hk (by rw [Nat.zero_add]; simpa [byteAt, hk] using h1)] at h; cases h
  · intro h
    exact nameFrom_yes l 0 fun k hk => by have := h k hk; simpa [byteAt, hk] using this
theorem okC_walk (c k : Nat) : (!(decide ((c : Int) ≥ 97) && decide ((c : Int) ≤ 122) || decide ((c : Int) ≥ 65) && decide ((c : Int) ≤ 90) || (c : Int) == 95) && ((k : Int) == 0 || decide ((c : Int) < 48) || decide ((c : Int) > 57))) = !okC c k := by
  unfold okC
  rw [Bool.eq_iff_iff]; simp; omega
/-- desc.Name. -/
theorem name_any (l : L) (w : World) (hs : Len l) :
    Calls Tryz.prog 82 #[.string (mkS l)] w fun e w' => e = .returned (.bool (nameB l)) ∧ w = w' := by
  refine calls_W (args := [.string (mkS l)]) Tryz.func82 rfl rfl rfl ?_
  refine Wg rfl (W_region ?_)
  repeat (first | refine WL1 rfl ?_ | refine WLe rfl rfl ?_ | refine W_region ?_)
  refine WL_lenS rfl rfl rfl tS rfl rfl rfl (m := l.length) rfl ?_
  repeat (first | refine WL1 rfl ?_ | refine WLe rfl rfl ?_ | refine W_region ?_)
  refine W_loop (fun k : Nat => [(0, [], .string (mkS l)), (7, [], .int .i64 l.length), (8, [], .int .i64 k)]) (fun k w' => w = w' ∧ k ≤ l.length ∧ ∀ (i : Nat), i < k → okC (byteAt l i) i = true) (fun k => l.length - k) 0 (fun _ => rfl) ⟨rfl, rfl, rfl, trivial⟩ ⟨rfl, Nat.zero_le _, fun i h => absurd h (Nat.not_lt_zero i)⟩ ?_
  rintro k w ⟨rfl, hk, hok⟩
  refine Wg rfl (W_region ?_)
  repeat (first | refine WL1 rfl ?_ | refine WLe rfl rfl ?_ | refine W_region ?_)
  refine W_cond rfl rfl (fun hb => ?_) (fun hb => ?_)
  · have hlt : k < l.length := by simpa using hb
    refine Wg rfl (W_region ?_)
    repeat (first | refine WL1 rfl ?_ | refine WLe rfl rfl ?_ | refine W_region ?_)
    refine WL_byte rfl rfl rfl rfl tS rfl rfl rfl (fun _ => ⟨by omega, by rw [bl_mk]; omega⟩) (b := byteAt l k) rfl ?_
    repeat (first | refine WL1 rfl ?_ | refine WLe rfl rfl ?_ | refine W_region ?_)
    refine W_cond rfl rfl (fun hc => ?_) (fun hc => ?_)
    · refine Wg rfl (W_region ?_)
      repeat (first | refine WL1 rfl ?_ | refine WLe rfl rfl ?_ | refine W_region ?_)
      refine W_ret1 rfl rfl rfl ⟨ret_bool ?_, rfl⟩
      rw [okC_walk] at hc
      unfold nameB
      have hno : nameFrom 0 l = false := Bool.eq_false_iff.2 fun h => by rw [(nameFrom_iff l).1 h k hlt] at hc; cases hc
      rw [hno]
      rfl
    · refine Wg rfl (W_region ?_)
      refine WL_add rfl rfl rfl rfl rfl rfl rfl (fun _ => by unfold Len at hs; omega) ?_
      repeat (first | refine WL1 rfl ?_ | refine WLe rfl rfl ?_ | refine W_region ?_)
      refine WLr rfl (k + 1) (by omega) ⟨rfl, hlt, fun i hi => ?_⟩ rfl ⟨rfl, rfl, rfl, trivial⟩
      rcases Nat.lt_or_eq_of_le (Nat.le_of_lt_succ hi) with h1 | rfl
      · exact hok i h1
      · rw [okC_walk] at hc; simpa using hc
  · have he : k = l.length := by simp at hb; omega
    refine Wg rfl (W_region ?_)
    repeat (first | refine WL1 rfl ?_ | refine WLe rfl rfl ?_ | refine W_region ?_)
    refine WL_lenS rfl rfl rfl tS rfl rfl rfl (m := l.length) rfl ?_
    repeat (first | refine WL1 rfl ?_ | refine WLe rfl rfl ?_ | refine W_region ?_)
    refine W_ret1 rfl rfl rfl ⟨ret_bool ?_, rfl⟩
    unfold nameB
    rw [(nameFrom_iff l).2 fun i hi => hok i (by omega), Bool.true_and]
    congr 1
    · cases l <;> rfl
    · simp; omega
end Go.Proofs.YtljcmmmajjmpoaaGreatDoor
