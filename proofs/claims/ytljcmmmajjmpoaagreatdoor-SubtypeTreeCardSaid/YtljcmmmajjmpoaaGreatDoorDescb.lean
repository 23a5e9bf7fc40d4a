/- The contracts of package desc, further. -/
import Derived.Test.YtljcmmmajjmpoaaGreatDoorDesc
namespace Go.Proofs.YtljcmmmajjmpoaaGreatDoor
open Go.RowKit Sp

theorem enters_name : Enters Tryz.prog 82 := enters_of Tryz.func82 (by kernel_rfl) rfl
theorem enters_ib : Enters Tryz.prog 115 := enters_of Tryz.func115 (by kernel_rfl) rfl
theorem ib_any (l : L) (c : Nat) (w : World) : Calls Tryz.prog 115 #[.string (mkS l), .int .u8 c] w fun e w' => e = .returned (.int .i64 (Lib.indexByte l c.toUInt8)) ∧ w = w' :=
  (Tryz.strings_IndexByte (mkS l) c w).mono fun _ _ ⟨h1, h2⟩ => ⟨h1, h2.symm⟩
theorem isEmpty_bl (l : L) : (l == bl ⟨#[]⟩) = l.isEmpty := by cases l <;> rfl
theorem byteAt_cons (c : UInt8) (r : L) : byteAt (c :: r) 0 = c.toNat := rfl

theorem next_none {l : L} (h : nextD 0 l = none) : nextP l = ([], l) := by unfold nextP; rw [h]
theorem next_some {l r : L} (h : nextD 0 l = some r) : nextP l = (l.take (l.length - r.length), r) := by unfold nextP; rw [h]
theorem u8_eq {c : UInt8} {n : Int} (m : UInt8) (hn : n = m.toNat) : ((c.toNat : Int) == n) = decide (c = m) := by
  rw [Bool.eq_iff_iff]
  simp only [beq_iff_eq, decide_eq_true_eq, hn]
  constructor
  · intro h; exact UInt8.toNat_inj.1 (by omega)
  · rintro rfl; rfl
/-- desc.next. -/
theorem next_any (l : L) (w : World) (hs : Len l) :
    Calls Tryz.prog 77 #[.string (mkS l)] w fun e w' => e = .returned (.tuple #[.string (mkS (nextP l).1), .string (mkS (nextP l).2)]) ∧ w = w' := by
  refine calls_W (args := [.string (mkS l)]) Tryz.func77 rfl rfl rfl ?_
  refine Wg rfl (W_region ?_)
  repeat (first | refine WL1 rfl ?_ | refine WLe rfl rfl ?_ | refine W_region ?_)
  refine W_scope 0 (fun x : L × Nat => [(0, [], .string (mkS l)), (3, [], .string (mkS x.1)), (4, [], .int .i64 x.2)]) (fun x w' => w = w' ∧ nextD 0 l = nextD x.2 x.1 ∧ x.1.length ≤ l.length ∧ x.2 ≤ 5) (fun x => x.1.length) rfl ?_ ?_
  · rintro ⟨r, d⟩ w ⟨rfl, h1, h2, h3⟩
    dsimp only at h1 h2 h3 ⊢
    refine Wg rfl (W_region ?_)
    repeat (first | refine WL1 rfl ?_ | refine WLe rfl rfl ?_ | refine W_region ?_)
    refine W_cond rfl rfl (fun hb => ?_) (fun hb => ?_)
    · rw [bl_mk, isEmpty_bl] at hb
      refine Wg rfl (W_region ?_)
      repeat (first | refine WL1 rfl ?_ | refine WLe rfl rfl ?_ | refine W_region ?_)
      refine W_ret2 rfl rfl rfl rfl ⟨?_, rfl⟩
      have hn : nextD 0 l = none := by
        rw [h1]
        cases r with
        | nil => rfl
        | cons c r => rw [nextD, if_pos (by simp at hb; omega)]
      rw [next_none hn]
      rfl
    · rw [bl_mk, isEmpty_bl] at hb
      obtain ⟨c, r, rfl⟩ : ∃ c r', r = c :: r' := by
        cases r with
        | nil => simp at hb
        | cons c r => exact ⟨c, r, rfl⟩
      have hd : ¬ 4 < d := by simp at hb; omega
      rw [nextD, if_neg hd] at h1
      refine Wg rfl (W_region ?_)
      repeat (first | refine WL1 rfl ?_ | refine WLe rfl rfl ?_ | refine W_region ?_)
      refine WL_byte rfl rfl rfl rfl tS rfl rfl rfl (fun _ => ⟨by omega, by rw [bl_mk]; simp⟩) (b := c.toNat) rfl ?_
      repeat (first | refine WL1 rfl ?_ | refine WLe rfl rfl ?_ | refine W_region ?_)
      refine W_cond rfl rfl (fun hb => ?_) (fun hb => ?_)
      · have hc : c = 91 := by rw [u8_eq (n := 91) 91 rfl] at hb; simpa using hb
        rw [if_pos hc] at h1
        refine Wg rfl (W_region ?_)
        refine WL1 rfl ?_
        refine WL_add rfl rfl rfl rfl rfl rfl rfl (fun _ => by omega) ?_
        repeat (first | refine WL1 rfl ?_ | refine WLe rfl rfl ?_ | refine W_region ?_)
        refine WL_from rfl rfl rfl rfl tS rfl rfl rfl (fun _ => ⟨by omega, by rw [bl_mk]; simp; omega⟩) (r := r) rfl ?_
        refine WL1 rfl ?_
        refine WL_nil (WN_seq ?_)
        refine Wr rfl (r, d + 1) (by simp) ⟨rfl, h1, by simp at h2 ⊢; omega, by simp; omega⟩ rfl ⟨rfl, rfl, rfl, trivial⟩
      · have hc : ¬ c = 91 := by rw [u8_eq (n := 91) 91 rfl] at hb; simpa using hb
        rw [if_neg hc] at h1
        refine Wg rfl (W_region ?_)
        refine WL1 rfl ?_
        refine WL_byte rfl rfl rfl rfl tS rfl rfl rfl (fun _ => ⟨by omega, by rw [bl_mk]; simp⟩) (b := c.toNat) rfl ?_
        repeat (first | refine WL1 rfl ?_ | refine WLe rfl rfl ?_ | refine W_region ?_)
        refine WL_byte rfl rfl rfl rfl tS rfl rfl rfl (fun _ => ⟨by omega, by rw [bl_mk]; simp⟩) (b := c.toNat) rfl ?_
        repeat (first | refine WL1 rfl ?_ | refine WLe rfl rfl ?_ | refine W_region ?_)
        refine W_cond rfl rfl (fun hb => ?_) (fun hb => ?_)
        · have hic : c = 73 ∨ c = 67 := by rw [u8_eq (n := 73) 73 rfl, u8_eq (n := 67) 67 rfl] at hb; simpa using hb
          rw [if_pos hic] at h1
          refine Wg rfl (W_region ?_)
          refine WL1 rfl ?_
          refine WL_from rfl rfl rfl rfl tS rfl rfl rfl (fun _ => ⟨by omega, by rw [bl_mk]; simp; omega⟩) (r := r) rfl ?_
          repeat (first | refine WL1 rfl ?_ | refine WLe rfl rfl ?_ | refine W_region ?_)
          refine WL_lenS rfl rfl rfl tS rfl rfl rfl (m := l.length) rfl ?_
          repeat (first | refine WL1 rfl ?_ | refine WLe rfl rfl ?_ | refine W_region ?_)
          refine WL_lenS rfl rfl rfl tS rfl rfl rfl (m := r.length) rfl ?_
          refine WL_sub rfl rfl rfl rfl rfl rfl rfl (fun _ => by unfold Len at hs; simp at h2; omega) ?_
          refine WL_upto rfl rfl rfl rfl tS rfl rfl rfl (fun _ => by rw [bl_mk]; simp at h2; omega) (r := (nextP l).1) (by rw [next_some h1, bl_mk]; congr 1; omega) ?_
          repeat (first | refine WL1 rfl ?_ | refine WLe rfl rfl ?_ | refine W_region ?_)
          refine W_ret2 rfl rfl rfl rfl ⟨?_, rfl⟩
          rw [next_some h1]
        · have hic : ¬ (c = 73 ∨ c = 67) := by rw [u8_eq (n := 73) 73 rfl, u8_eq (n := 67) 67 rfl] at hb; simpa using hb
          rw [if_neg hic] at h1
          have hi1 := indexByte_lt (c :: r) 59
          have hi2 := indexByte_ge (c :: r) 59
          refine Wg rfl (W_region ?_)
          repeat (first | refine WL1 rfl ?_ | refine WLe rfl rfl ?_ | refine W_region ?_)
          refine WL_callq (v := .int .i64 (Lib.indexByte (c :: r) 59)) rfl rfl rfl rfl rfl enters_ib rfl (fun _ => ib_any (c :: r) 59 _) ?_
          repeat (first | refine WL1 rfl ?_ | refine WLe rfl rfl ?_ | refine W_region ?_)
          refine WL_byte rfl rfl rfl rfl tS rfl rfl rfl (fun _ => ⟨by omega, by rw [bl_mk]; simp⟩) (b := c.toNat) rfl ?_
          repeat (first | refine WL1 rfl ?_ | refine WLe rfl rfl ?_ | refine W_region ?_)
          have hg : ∀ fr' : Fr, getG fr' 16 = some ([], .bool (decide (Lib.indexByte (c :: r) 59 < 0) || (c.toNat : Int) != 76)) → satB fr' [(16, false)] = true → 0 ≤ Lib.indexByte (c :: r) 59 ∧ c = 76 := fun fr' h1 h2 => by
            simp only [satB, getV, h1, Bool.and_true, beq_iff_eq, Bool.or_eq_false_iff, decide_eq_false_iff_not] at h2
            refine ⟨by omega, ?_⟩
            have := h2.2
            rw [bne, u8_eq (n := 76) 76 rfl] at this
            simpa using this
          have hp : c = 76 → 0 ≤ Lib.indexByte (c :: r) 59 → 1 ≤ Lib.indexByte (c :: r) 59 := fun h1 h2 => by
            rw [Lib.indexByte] at h2 ⊢
            rw [if_neg (by rw [h1]; decide)] at h2 ⊢
            have h3 := indexByte_ge r 59
            by_cases e : Lib.indexByte r 59 = -1
            · simp [e] at h2
            · have e' : (Lib.indexByte r 59 == -1) = false := by simpa using e
              rw [e'] at h2 ⊢
              simp only [Bool.false_eq_true, if_false] at h2 ⊢
              omega
          have hlen : (c :: r).length ≤ 9223372036854775807 := Nat.le_trans h2 hs
          refine WL_part rfl rfl rfl rfl rfl tS rfl rfl rfl (fun hsat => by
            obtain ⟨g1, g2⟩ := hg _ rfl hsat
            have := hp g2 g1
            rw [bl_mk]; omega) (r := ((c :: r).take (Lib.indexByte (c :: r) 59).toNat).drop 1) rfl ?_
          refine WL_callq rfl rfl rfl rfl rfl enters_name rfl (fun _ => name_any _ _ (by unfold Len; simp only [List.length_drop, List.length_take]; omega)) ?_
          repeat (first | refine WL1 rfl ?_ | refine WLe rfl rfl ?_ | refine W_region ?_)
          refine W_cond rfl rfl (fun hb => ?_) (fun hb => ?_)
          · have hn : nextD 0 l = none := by
              rw [h1, if_pos]
              rw [bne, u8_eq (n := 76) 76 rfl] at hb
              simp only [Bool.or_eq_true, decide_eq_true_eq, Bool.not_eq_true', decide_eq_false_iff_not] at hb
              rcases hb with (h | h) | h
              · exact .inl h
              · exact .inr (.inl h)
              · exact .inr (.inr h)
            refine Wg rfl (W_region ?_)
            repeat (first | refine WL1 rfl ?_ | refine WLe rfl rfl ?_ | refine W_region ?_)
            refine W_ret2 rfl rfl rfl rfl ⟨?_, rfl⟩
            rw [next_none hn]
            rfl
          · have hb' : ¬ (Lib.indexByte (c :: r) 59 < 0 ∨ c ≠ 76 ∨ nameB (((c :: r).take (Lib.indexByte (c :: r) 59).toNat).drop 1) = false) := by
              rw [bne, u8_eq (n := 76) 76 rfl] at hb
              simp only [Bool.or_eq_false_iff, decide_eq_false_iff_not, Bool.not_eq_false', decide_eq_true_eq] at hb
              rintro (h | h | h)
              · exact hb.1.1 h
              · exact h hb.1.2
              · rw [h] at hb; simp at hb
            rw [if_neg hb'] at h1
            have hi0 : 0 ≤ Lib.indexByte (c :: r) 59 := by omega
            refine Wg rfl (W_region ?_)
            repeat (first | refine WL1 rfl ?_ | refine WLe rfl rfl ?_ | refine W_region ?_)
            refine WL_add rfl rfl rfl rfl rfl rfl rfl (fun _ => by omega) ?_
            refine WL_from rfl rfl rfl rfl tS rfl rfl rfl (fun _ => by rw [bl_mk]; omega) (r := (c :: r).drop ((Lib.indexByte (c :: r) 59).toNat + 1)) (by rw [bl_mk]; congr 1; omega) ?_
            repeat (first | refine WL1 rfl ?_ | refine WLe rfl rfl ?_ | refine W_region ?_)
            refine WL_lenS rfl rfl rfl tS rfl rfl rfl (m := l.length) rfl ?_
            repeat (first | refine WL1 rfl ?_ | refine WLe rfl rfl ?_ | refine W_region ?_)
            refine WL_lenS rfl rfl rfl tS rfl rfl rfl (m := ((c :: r).drop ((Lib.indexByte (c :: r) 59).toNat + 1)).length) rfl ?_
            have hl3 : ((c :: r).drop ((Lib.indexByte (c :: r) 59).toNat + 1)).length ≤ l.length := by rw [List.length_drop]; omega
            refine WL_sub rfl rfl rfl rfl rfl rfl rfl (fun _ => by unfold Len at hs; omega) ?_
            refine WL_upto rfl rfl rfl rfl tS rfl rfl rfl (fun _ => by rw [bl_mk]; omega) (r := (nextP l).1) (by rw [next_some h1, bl_mk]; congr 1; omega) ?_
            repeat (first | refine WL1 rfl ?_ | refine WLe rfl rfl ?_ | refine W_region ?_)
            refine W_ret2 rfl rfl rfl rfl ⟨?_, rfl⟩
            rw [next_some h1]
  · intro H
    refine Wg rfl (W_region ?_)
    refine WL1 rfl (WL1 rfl (WLe rfl rfl (W_region (WL1 rfl ?_))))
    refine WLlab rfl _ rfl ?_ (H (l, 0) w ⟨rfl, rfl, Nat.le_refl _, by omega⟩)
    exact ⟨rfl, rfl, rfl, trivial⟩

theorem enters_next : Enters Tryz.prog 77 := enters_of Tryz.func77 (by kernel_rfl) rfl
/-- desc.Type. -/
theorem type_any (l : L) (w : World) (hs : Len l) : Calls Tryz.prog 40 #[.string (mkS l)] w fun e w' => e = .returned (.bool (typeB l)) ∧ w = w' := by
  refine calls_W (args := [.string (mkS l)]) Tryz.func40 rfl rfl rfl ?_
  refine Wg rfl (W_region ?_)
  repeat (first | refine WL1 rfl ?_ | refine WLe rfl rfl ?_ | refine W_region ?_)
  refine WL_callq rfl rfl rfl rfl rfl enters_next rfl (fun _ => next_any l _ hs) ?_
  repeat (first | refine WL1 rfl ?_ | refine WLe rfl rfl ?_ | refine W_region ?_)
  refine W_ret1 rfl rfl rfl ⟨ret_bool ?_, rfl⟩
  rw [typeB_next, bl_mk, bl_mk]
  generalize nextP l = x
  obtain ⟨x, y⟩ := x
  cases x <;> cases y <;> rfl
theorem enters_type : Enters Tryz.prog 40 := enters_of Tryz.func40 (by kernel_rfl) rfl
/-- desc.MethodName. -/
theorem mname_any (l : L) (w : World) (hs : Len l) : Calls Tryz.prog 154 #[.string (mkS l)] w fun e w' => e = .returned (.bool (mnameB l)) ∧ w = w' := by
  refine calls_W (args := [.string (mkS l)]) Tryz.func154 rfl rfl rfl ?_
  refine Wg rfl (W_region ?_)
  repeat (first | refine WL1 rfl ?_ | refine WLe rfl rfl ?_ | refine W_region ?_)
  refine WL_callq rfl rfl rfl rfl rfl enters_name rfl (fun _ => name_any l _ hs) ?_
  repeat (first | refine WL1 rfl ?_ | refine WLe rfl rfl ?_ | refine W_region ?_)
  exact W_ret1 rfl rfl rfl ⟨rfl, rfl⟩
theorem enters_mname : Enters Tryz.prog 154 := enters_of Tryz.func154 (by kernel_rfl) rfl
/-- desc.Ref. -/
theorem ref_any (l : L) (w : World) (hs : Len l) : Calls Tryz.prog 48 #[.string (mkS l)] w fun e w' => e = .returned (.bool (typeB l && !(l == [73]) && !(l == [67]))) ∧ w = w' := by
  refine calls_W (args := [.string (mkS l)]) Tryz.func48 rfl rfl rfl ?_
  refine Wg rfl (W_region ?_)
  repeat (first | refine WL1 rfl ?_ | refine WLe rfl rfl ?_ | refine W_region ?_)
  refine WL_callq rfl rfl rfl rfl rfl enters_type rfl (fun _ => type_any l _ hs) ?_
  repeat (first | refine WL1 rfl ?_ | refine WLe rfl rfl ?_ | refine W_region ?_)
  exact W_ret1 rfl rfl rfl ⟨rfl, rfl⟩
theorem enters_ref : Enters Tryz.prog 48 := enters_of Tryz.func48 (by kernel_rfl) rfl
end Go.Proofs.YtljcmmmajjmpoaaGreatDoor
