/- lanternalike: Sum, Instr. -/
import Derived.Test.YtljcmmmajjmpoaaGreatDoorRes
namespace Go.Proofs.YtljcmmmajjmpoaaGreatDoor
open Go.RowKit Sp

def IntR : Rep Int := fun _ _ x cs => cs = [.int .i64 x]
theorem IntR.mono : Mono IntR := fun _ _ _ _ _ _ h _ _ => h
/-- n and more, held at a limit. -/
def sumF : Int → List Int → Int
  | n, [] => n
  | n, x :: r => if decide (n > 1099511627776) || decide (x > 1099511627776 - n) then 1099511627776 else sumF (n + x) r
theorem enters_sum : Enters Tryz.prog 25 := enters_of Tryz.func25 (by kernel_rfl) rfl
theorem sum_any {B : Nat → Prop} (n0 : Int) (xs : List Int) (v : Value) (w : World) (hsl : Sl IntR 1 B w v xs) (h0 : 0 ≤ n0) (h1 : n0 ≤ 9223372036854775807) (hx0 : ∀ x ∈ xs, 0 ≤ x) :
    Calls Tryz.prog 25 #[.int .i64 n0, v] w fun e w' => e = .returned (.int .i64 (sumF n0 xs)) ∧ w = w' := by
  have hle := hsl.len
  obtain ⟨A, c, rfl, hlc, _, hrow⟩ := hsl
  refine calls_W (args := [.int .i64 n0, .slice A xs.length c]) Tryz.func25 rfl rfl rfl ?_
  refine Wg rfl (W_region ?_)
  repeat (first | refine WL1 rfl ?_ | refine WLe rfl rfl ?_ | refine W_region ?_ | refine WL2 inf rfl ?_ | refine WL_ld inf rfl rfl rfl rfl (Blk.cell (by assumption) rfl) ?_)
  refine W_loop (fun x : Nat × Int => [(0, [], .int .i64 x.2), (1, [], .slice A xs.length c), (5, [], .int .i64 x.1)])
    (fun x W => w = W ∧ x.1 ≤ xs.length ∧ 0 ≤ x.2 ∧ x.2 ≤ 9223372036854775807 ∧ sumF n0 xs = sumF x.2 (xs.drop x.1)) (fun x => xs.length - x.1) (0, n0) (fun _ => rfl) ⟨rfl, rfl, rfl, trivial⟩ ⟨rfl, Nat.zero_le _, h0, h1, rfl⟩ ?_
  rintro ⟨k, m⟩ W ⟨rfl, hk, hm0, hm1, hS⟩
  dsimp only at hk hm0 hm1 hS ⊢
  refine Wg rfl (W_region ?_)
  repeat (first | refine WL1 rfl ?_ | refine WLe rfl rfl ?_ | refine W_region ?_ | refine WL2 inf rfl ?_ | refine WL_ld inf rfl rfl rfl rfl (Blk.cell (by assumption) rfl) ?_)
  refine W_cond rfl rfl (fun hb => ?_) (fun hb => ?_)
  · have hlt : k < xs.length := by simpa using hb
    have hx : xs[k]? = some xs[k] := List.getElem?_eq_getElem hlt
    have hdr : xs.drop k = xs[k] :: xs.drop (k + 1) := List.drop_eq_getElem_cons hlt
    generalize xs[k] = x at hx hdr
    have hxp := hx0 x (List.mem_of_getElem? hx)
    rw [hdr, sumF] at hS
    obtain ⟨a, cs, rfl, hz, rfl, hcs⟩ := hrow.at_ hx
    refine Wg rfl (W_region ?_)
    repeat (first | refine WL1 rfl ?_ | refine WLe rfl rfl ?_ | refine W_region ?_ | refine WL2 inf rfl ?_ | refine WL_ld inf rfl rfl rfl rfl (Blk.cell (by assumption) rfl) ?_)
    refine WL_ix inf rfl rfl rfl rfl rfl (fun _ => ⟨by omega, by omega⟩) ?_
    refine WL_ld inf rfl rfl rfl rfl (hcs.cells.at_ (j := 0) rfl) ?_
    repeat (first | refine WL1 rfl ?_ | refine WLe rfl rfl ?_ | refine W_region ?_ | refine WL2 inf rfl ?_ | refine WL_ld inf rfl rfl rfl rfl (Blk.cell (by assumption) rfl) ?_)
    refine WL_sub rfl rfl rfl rfl rfl rfl rfl (fun _ => by omega) ?_
    repeat (first | refine WL1 rfl ?_ | refine WLe rfl rfl ?_ | refine W_region ?_ | refine WL2 inf rfl ?_ | refine WL_ld inf rfl rfl rfl rfl (Blk.cell (by assumption) rfl) ?_)
    refine W_cond rfl rfl (fun hc => ?_) (fun hc => ?_)
    · rw [if_pos hc] at hS
      refine Wg rfl (W_region ?_)
      repeat (first | refine WL1 rfl ?_ | refine WLe rfl rfl ?_ | refine W_region ?_ | refine WL2 inf rfl ?_ | refine WL_ld inf rfl rfl rfl rfl (Blk.cell (by assumption) rfl) ?_)
      exact W_ret1 rfl rfl rfl ⟨ret_int hS.symm, rfl⟩
    · rw [if_neg (by rw [hc]; simp)] at hS
      have hbd : m ≤ 1099511627776 ∧ x ≤ 1099511627776 - m := by
        simp only [Bool.or_eq_false_iff, decide_eq_false_iff_not] at hc
        omega
      refine Wg rfl (W_region ?_)
      repeat (first | refine WL1 rfl ?_ | refine WLe rfl rfl ?_ | refine W_region ?_ | refine WL2 inf rfl ?_ | refine WL_ld inf rfl rfl rfl rfl (Blk.cell (by assumption) rfl) ?_)
      refine WL_ix inf rfl rfl rfl rfl rfl (fun _ => ⟨by omega, by omega⟩) ?_
      refine WL_ld inf rfl rfl rfl rfl (hcs.cells.at_ (j := 0) rfl) ?_
      refine WL_add rfl rfl rfl rfl rfl rfl rfl (fun _ => by omega) ?_
      repeat (first | refine WL1 rfl ?_ | refine WLe rfl rfl ?_ | refine W_region ?_ | refine WL2 inf rfl ?_ | refine WL_ld inf rfl rfl rfl rfl (Blk.cell (by assumption) rfl) ?_)
      refine WL_add rfl rfl rfl rfl rfl rfl rfl (fun _ => by omega) ?_
      repeat (first | refine WL1 rfl ?_ | refine WLe rfl rfl ?_ | refine W_region ?_ | refine WL2 inf rfl ?_ | refine WL_ld inf rfl rfl rfl rfl (Blk.cell (by assumption) rfl) ?_)
      exact WLr rfl (k + 1, m + x) (by simp only; omega) ⟨rfl, hlt, by simp only; omega, by simp only; omega, hS⟩ rfl ⟨rfl, rfl, rfl, trivial⟩
  · have hk' : k = xs.length := by simp at hb; omega
    subst hk'
    rw [List.drop_length, sumF] at hS
    refine Wg rfl (W_region ?_)
    repeat (first | refine WL1 rfl ?_ | refine WLe rfl rfl ?_ | refine W_region ?_ | refine WL2 inf rfl ?_ | refine WL_ld inf rfl rfl rfl rfl (Blk.cell (by assumption) rfl) ?_)
    exact W_ret1 rfl rfl rfl ⟨ret_int hS.symm, rfl⟩
/-- A block of numbers. -/
theorem intSl {w : World} {h : Nat} {xs : List Int} {n : Nat} (hb : Blk w h 3 (xs.map fun s => .int .i64 s)) (hn : xs.length = n) (hm : n ≤ 9223372036854775807) : Sl IntR 1 (fun k => k = h) w (.slice (some ⟨h, 0, none⟩) n n) xs := by
  subst hn
  refine ⟨_, _, rfl, Nat.le_refl _, by simp only [maxLen]; omega, fun i x hx => ⟨[.int .i64 x], rfl, rfl, fun j v hj => ⟨by rw [add_block], ?_⟩⟩⟩
  have hj0 : j = 0 := by
    have := (List.getElem?_eq_some_iff.1 hj).1
    simp at this; exact this
  subst hj0
  have := hb.cells i v (by rw [List.getElem?_map, hx]; simpa using hj)
  simpa [add_add] using this
/-- How many bytes of texts an instruction has. -/
def sizeI (x : Ins) : Int := sumF 1 [(x.cls.length : Int), (x.name.length : Int), (x.desc.length : Int)]
theorem enters_ainstr : Enters Tryz.prog 104 := enters_of Tryz.func104 (by kernel_rfl) rfl
theorem ainstr_any (x : Ins) (w : World) (ho : Ins.ok x) : Calls Tryz.prog 104 #[.agg (Ins.cs x).toArray] w fun e w' => e = .returned (.int .i64 (sizeI x)) ∧ Ext w w' := by
  refine calls_W (args := [.agg (Ins.cs x).toArray]) Tryz.func104 rfl rfl rfl ?_
  refine Wg rfl (W_region ?_)
  refine WL_box (cs := Ins.cs x) rfl rfl rfl rfl rfl ?_
  rintro g w1 hg hB hE
  repeat (first | refine WL1 rfl ?_ | refine WLe rfl rfl ?_ | refine W_region ?_ | refine WL2 inf rfl ?_ | refine WL_ld inf rfl rfl rfl rfl (Blk.cell (by assumption) rfl) ?_)
  refine WL_lenS rfl rfl rfl tS rfl rfl rfl (m := x.cls.length) rfl ?_
  repeat (first | refine WL1 rfl ?_ | refine WLe rfl rfl ?_ | refine W_region ?_ | refine WL2 inf rfl ?_ | refine WL_ld inf rfl rfl rfl rfl (Blk.cell (by assumption) rfl) ?_)
  refine WL_lenS rfl rfl rfl tS rfl rfl rfl (m := x.name.length) rfl ?_
  repeat (first | refine WL1 rfl ?_ | refine WLe rfl rfl ?_ | refine W_region ?_ | refine WL2 inf rfl ?_ | refine WL_ld inf rfl rfl rfl rfl (Blk.cell (by assumption) rfl) ?_)
  refine WL_lenS rfl rfl rfl tS rfl rfl rfl (m := x.desc.length) rfl ?_
  refine WL_bsl (cs := [(x.cls.length : Int), (x.name.length : Int), (x.desc.length : Int)].map fun s => .int .i64 s) rfl rfl rfl rfl rfl (bs79_3 _ _ _ _) ?_
  rintro h w2 rfl hh hE2
  refine WL_callq rfl rfl rfl rfl rfl enters_sum rfl (fun _ => sum_any 1 [(x.cls.length : Int), (x.name.length : Int), (x.desc.length : Int)] _ _ (intSl hh rfl (by omega)) (by omega) (by omega) (by simp)) ?_
  repeat (first | refine WL1 rfl ?_ | refine WLe rfl rfl ?_ | refine W_region ?_ | refine WL2 inf rfl ?_ | refine WL_ld inf rfl rfl rfl rfl (Blk.cell (by assumption) rfl) ?_)
  exact W_ret1 rfl rfl rfl ⟨rfl, hE.then_ hE2⟩
end Go.Proofs.YtljcmmmajjmpoaaGreatDoor
