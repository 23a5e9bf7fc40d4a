/- link: doubled. -/
import Derived.Test.YtljcmmmajjmpoaaGreatDoorLinkb
namespace Go.Proofs.YtljcmmmajjmpoaaGreatDoor
open Go.RowKit Sp

def cutA (A : Option Addr) (lo cap z : Nat) : Option Addr := if cap = lo then A else A.map fun a => a.add (lo * z)
theorem Row.drop {α : Type} {R : Rep α} {z : Nat} {B : Nat → Prop} {w : World} {A : Option Addr} {xs : List α} (h : Row R z B w A xs) {lo cap : Nat} (hlo : lo ≤ xs.length) (hc : xs.length ≤ cap) : Row R z B w (cutA A lo cap z) (xs.drop lo) := by
  unfold cutA
  split
  · rename_i e
    have : xs.drop lo = [] := by rw [List.drop_eq_nil_iff]; omega
    rw [this]
    cases A with
    | none => rfl
    | some a => intro i x hx; simp at hx
  · cases A with
    | none => rw [show xs = [] from h]; simp [Row]
    | some a =>
      intro i x hx
      rw [List.getElem?_drop] at hx
      obtain ⟨cs, h1, h2, h3⟩ := h _ x hx
      refine ⟨cs, h1, h2, ?_⟩
      rw [add_add, ← Nat.add_mul]
      exact h3
theorem Row.sl_drop {α : Type} {R : Rep α} {z : Nat} {B : Nat → Prop} {w : World} {A : Option Addr} {xs : List α} (h : Row R z B w A xs) {lo cap : Nat} (hlo : lo ≤ xs.length) (hc : xs.length ≤ cap) (hm : cap ≤ maxLen) : Sl R z B w (.slice (cutA A lo cap z) (xs.length - lo) (cap - lo)) (xs.drop lo) :=
  ⟨cutA A lo cap z, cap - lo, by rw [List.length_drop], by rw [List.length_drop]; omega, by omega, h.drop hlo hc⟩
section
variable {P : Program} {n : Nat} {fr : Fr} {w : World} {k : Kt} {ops : Array Oper} {rest : List Oper}
/-- xs[i:]. -/
theorem WL_fromL (I : Info P) {p : List (Nat × Bool)} {d : Nat} {x y : Operand} {t ty : TypeId} {pos : String} {aft : Array Edge} {gd : Option (Nat × Bool)} {A : Option Addr} {m c z : Nat} {kd : IntKind} {i : Int}
    (hp : pathOf ops fr ⟨some d, .slice t x (some y) none none, ty, pos, aft, gd⟩ = some p) (hx : gv fr p x = some (.slice A m c)) (hy : gv fr p y = some (.int kd i)) (ht : I.elemZ t = some z)
    (hck : (decide (d < n) && fresh d fr && freshP d p) = true) (hr : satB fr p = true → 0 ≤ i ∧ i ≤ m ∧ m ≤ c)
    (h : WL P n ops rest ((d, p, .slice (cutA A i.toNat c z) (m - i.toNat) (c - i.toNat)) :: fr) w k) : WL P n ops (⟨some d, .slice t x (some y) none none, ty, pos, aft, gd⟩ :: rest) fr w k := by
  simp only [Bool.and_eq_true] at hck
  obtain ⟨h1, h2⟩ := gv_ok hx
  obtain ⟨h3, h4⟩ := gv_ok hy
  obtain ⟨e, he, hz⟩ := I.elemZ_ok t z ht
  refine WL_val hp rfl (by simpa [Op.operands] using okO_two h1 h3) rfl hck.1.1 hck.1.2 hck.2 (fun hs => ?_) h
  have hr := hr hs
  have h5 : i ≤ c := by omega
  simp [execOp, h2, h4, Instr.sliceAt, Instr.slice, Instr.sliceBounds, Instr.sliceBound, asIntOf, run_underlying he, hr, hz, h5]
  rfl
end
/-- The first class whose name another one has. -/
def doubledD : List Cls → Option L
  | [] => none
  | c :: r => if builtinD.any (fun x => x.name == c.name) || r.any (fun x => x.name == c.name) then some c.name else doubledD r
theorem enters_doubled : Enters Tryz.prog 51 := enters_of Tryz.func51 (by kernel_rfl) rfl
set_option maxRecDepth 100000 in
set_option maxHeartbeats 4000000 in
theorem doubled_any {B : Nat → Prop} (l : List Cls) (v : Value) (w : World) (hsl : Sl ClsR 7 B w v l) :
    Calls Tryz.prog 51 #[v] w fun e w' => e = .returned (.tuple #[.string (mkS ((doubledD l).getD [])), .bool (doubledD l).isSome]) ∧ Ext w w' := by
  have hlen := hsl.len
  obtain ⟨A, cp, rfl, hl1, hl2, hrow⟩ := hsl
  have hcp : cp ≤ 9223372036854775807 := by simp only [maxLen] at hl2; omega
  refine calls_W (args := [.slice A l.length cp]) Tryz.func51 rfl rfl rfl ?_
  refine Wg rfl (W_region ?_)
  repeat (first | refine WL1 rfl ?_ | refine WLe rfl rfl ?_ | refine W_region ?_ | refine WL2 inf rfl ?_ | refine WL_ld inf rfl rfl rfl rfl (Blk.cell (by assumption) rfl) ?_)
  refine W_loop (fun k : Nat => [(0, [], .slice A l.length cp), (7, [], .slice A l.length cp), (8, [], .int .i64 l.length), (9, [], .int .i64 k)])
    (fun k W => k ≤ l.length ∧ Ext w W ∧ doubledD l = doubledD (l.drop k))
    (fun k => l.length - k) 0 (fun _ => rfl) ⟨rfl, rfl, rfl, rfl, trivial⟩ ⟨Nat.zero_le _, Ext.rfl' w, rfl⟩ ?_
  rintro k W ⟨hk, hE, hD⟩
  refine Wg rfl (W_region ?_)
  repeat (first | refine WL1 rfl ?_ | refine WLe rfl rfl ?_ | refine W_region ?_ | refine WL2 inf rfl ?_ | refine WL_ld inf rfl rfl rfl rfl (Blk.cell (by assumption) rfl) ?_)
  refine W_cond rfl rfl (fun hb => ?_) (fun hb => ?_)
  · have hlt : k < l.length := by simpa using hb
    have hx : l[k]? = some l[k] := List.getElem?_eq_getElem hlt
    have hdr : l.drop k = l[k] :: l.drop (k + 1) := List.drop_eq_getElem_cons hlt
    generalize l[k] = x at hx hdr
    rw [hdr, doubledD] at hD
    obtain ⟨a, cs, rfl, hz, hR, hcs⟩ := hrow.at_ hx
    have hone := ClsR.one _ _ _ _ hR
    obtain ⟨c0, h0, g0, rfl, -⟩ := hR
    refine Wg rfl (W_region ?_)
    repeat (first | refine WL1 rfl ?_ | refine WLe rfl rfl ?_ | refine W_region ?_ | refine WL2 inf rfl ?_ | refine WL_ld inf rfl rfl rfl rfl (Blk.cell (by assumption) rfl) ?_)
    refine WL_ix inf rfl rfl rfl rfl rfl (fun _ => ⟨by omega, by omega⟩) ?_
    refine WL_lda inf (cs := Cls.cs x c0 h0 g0) rfl rfl rfl rfl (hcs.cells.ext hE) ?_
    refine WL_alloc inf rfl rfl rfl rfl rfl ?_
    rintro g5 w3 hg5 hB3 hE3
    repeat (first | refine WL1 rfl ?_ | refine WLe rfl rfl ?_ | refine W_region ?_ | refine WL2 inf rfl ?_ | refine WL_ld inf rfl rfl rfl rfl (Blk.cell (by assumption) rfl) ?_)
    refine WL_sta inf (cs' := Cls.cs x c0 h0 g0) rfl rfl rfl rfl hone rfl hB3 rfl ?_
    rintro w4 hB4 u4
    have hE4 : Ext W w4 := u4.ext hE3 (by omega)
    repeat (first | refine WL1 rfl ?_ | refine WLe rfl rfl ?_ | refine W_region ?_ | refine WL2 inf rfl ?_ | refine WL_ld inf rfl rfl rfl rfl (Blk.cell (by assumption) rfl) ?_)
    refine WL_call rfl rfl rfl rfl rfl enters_builtin rfl (builtin_any w4) ?_
    rintro e w5 ⟨bv, rfl, hE5, hT⟩
    refine ⟨_, rfl, ?_⟩
    have hclo : ∀ W', Ext w4 W' → ∀ (x' : Cls) (cs : List Value) (B : Nat → Prop), ClsR B W' x' cs → Calls Tryz.prog 86 (Value.agg cs.toArray :: [.pointer (some ⟨g5, 0, none⟩)]).toArray W' fun e w1 => e = .returned (.bool (x'.name == x.name)) ∧ Ext W' w1 :=
      fun W' hW x' cs B hx' => doubled1_any x x' cs c0 h0 g0 g5 W' hx' (hB4.ext hW)
    repeat (first | refine WL1 rfl ?_ | refine WLe rfl rfl ?_ | refine W_region ?_ | refine WL2 inf rfl ?_ | refine WL_ld inf rfl rfl rfl rfl (Blk.cell (by assumption) rfl) ?_)
    refine WL_call rfl rfl rfl rfl rfl enters_cfCls rfl (cfCls_any (cap := [.pointer (some ⟨g5, 0, none⟩)]) (fun y => y.name == x.name) (hT.sl ClsR.mono) enters_doubled1 (fun W' x' cs hW _ _ hx' => hclo W' (hE5.then_ hW) x' cs _ (ClsR.mono _ _ _ _ _ _ hx' hW.keeps fun _ h => h))) ?_
    rintro e w6 ⟨rfl, hE6⟩
    refine ⟨_, rfl, ?_⟩
    have hEn := ((hE.then_ hE4).then_ hE5).then_ hE6
    repeat (first | refine WL1 rfl ?_ | refine WLe rfl rfl ?_ | refine W_region ?_ | refine WL2 inf rfl ?_ | refine WL_ld inf rfl rfl rfl rfl (Blk.cell (by assumption) rfl) ?_)
    refine WL_add rfl rfl rfl rfl rfl rfl rfl (fun _ => by omega) ?_
    refine WL_fromL inf rfl rfl rfl rfl rfl (fun _ => by omega) ?_
    repeat (first | refine WL1 rfl ?_ | refine WLe rfl rfl ?_ | refine W_region ?_ | refine WL2 inf rfl ?_ | refine WL_ld inf rfl rfl rfl rfl (Blk.cell (by assumption) rfl) ?_)
    have hsl2 : Sl ClsR 7 B w (.slice (cutA (some a) (k + 1) cp 7) (l.length - (k + 1)) (cp - (k + 1))) (l.drop (k + 1)) := hrow.sl_drop hlt hl1 hl2
    refine WL_callg (v := .bool ((l.drop (k + 1)).any fun y => y.name == x.name)) rfl rfl rfl enters_cfCls rfl (fun _ => cfCls_any (cap := [.pointer (some ⟨g5, 0, none⟩)]) (fun y => y.name == x.name) (hsl2.ext ClsR.mono hEn) enters_doubled1 (fun W' x' cs hW _ _ hx' => hclo W' ((hE5.then_ hE6).then_ hW) x' cs _ (ClsR.mono _ _ _ _ _ _ hx' hW.keeps fun _ h => h))) ?_
    intro w7 hE7
    replace hB4 := ((hB4.ext hE5).ext hE6).ext hE7
    repeat (first | refine WL1 rfl ?_ | refine WLe rfl rfl ?_ | refine W_region ?_ | refine WL2 inf rfl ?_ | refine WL_ld inf rfl rfl rfl rfl (Blk.cell (by assumption) rfl) ?_)
    refine W_cond rfl rfl (fun hc => ?_) (fun hc => ?_)
    · refine Wg rfl (W_region ?_)
      repeat (first | refine WL1 rfl ?_ | refine WLe rfl rfl ?_ | refine W_region ?_ | refine WL2 inf rfl ?_ | refine WL_ld inf rfl rfl rfl rfl (Blk.cell (by assumption) rfl) ?_)
      rw [if_pos hc] at hD
      refine W_ret2 rfl rfl rfl rfl ⟨?_, hEn.then_ hE7⟩
      rw [hD]; rfl
    · rw [if_neg (by rw [hc]; simp)] at hD
      refine Wg rfl (W_region ?_)
      refine WL_add rfl rfl rfl rfl rfl rfl rfl (fun _ => by omega) ?_
      repeat (first | refine WL1 rfl ?_ | refine WLe rfl rfl ?_ | refine W_region ?_ | refine WL2 inf rfl ?_ | refine WL_ld inf rfl rfl rfl rfl (Blk.cell (by assumption) rfl) ?_)
      exact WLr rfl (k + 1) (by omega) ⟨hlt, hEn.then_ hE7, hD⟩ rfl ⟨rfl, rfl, rfl, rfl, trivial⟩
  · have hk' : k = l.length := by simp at hb; omega
    subst hk'
    rw [List.drop_length, doubledD] at hD
    refine Wg rfl (W_region ?_)
    repeat (first | refine WL1 rfl ?_ | refine WLe rfl rfl ?_ | refine W_region ?_ | refine WL2 inf rfl ?_ | refine WL_ld inf rfl rfl rfl rfl (Blk.cell (by assumption) rfl) ?_)
    refine W_ret2 rfl rfl rfl rfl ⟨?_, hE⟩
    rw [hD]; rfl
end Go.Proofs.YtljcmmmajjmpoaaGreatDoor
