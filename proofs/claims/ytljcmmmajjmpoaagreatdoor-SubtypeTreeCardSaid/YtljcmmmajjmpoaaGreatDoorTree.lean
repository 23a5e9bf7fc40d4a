/- lanternlaw7.SubtypeTree: a row of classes, reckoned; lanternalike.Round; the walk. -/
import Derived.Test.YtljcmmmajjmpoaaGreatDoorSubd
import Derived.Laws.BytesArg
import Derived.Laws.Small
namespace Go.Proofs.YtljcmmmajjmpoaaGreatDoor
open Go.RowKit Sp

/-- The name of the class at a place, what stands above it, the class. -/
def tn (i : Nat) : L := [75, UInt8.ofNat (97 + i)]
def upT : Nat → L
  | 0 => objectS
  | i + 1 => tn i
def treeC (i : Nat) : Cls := ⟨tn i, upT i, false, false, [], [], []⟩
def treeL (n : Nat) : List Cls := (List.range n).map treeC
def treeP (n : Nat) : List Cls := isort (builtinD ++ treeL n)
/-- So many dimensions of a class. -/
def arr : Nat → Nat → L
  | 0, i => 76 :: (tn i ++ [59])
  | d + 1, i => 91 :: arr d i
def chT (i : Nat) : List L := (List.range (i + 1)).reverse.map tn ++ [objectS]
def linkOk (n : Nat) : Bool := ((builtinD ++ treeL n).map (·.name)).Nodup && (treeL n).all (fun c => checkC c == 0) && (doubledD (treeL n)).isNone && (rulesD (some (treeP n))).all (fun k => (treeL n).all k)
theorem linkOk_all : ((List.range 15).all fun m => linkOk (m + 1)) = true := by decide +kernel
def rowOk (n : Nat) : Bool := ((treeP n).all fun c => c.face || (chainD (some (treeP n)) c.name).contains objectS) &&
  (List.range n).all fun i => (decide (chainD (some (treeP n)) (tn i) = chT i) && decide (upS (some (treeP n)) (tn i) = [])) && decide ((findP (some (treeP n)) (tn i)).map (·.face) = some false)
theorem rowOk_all : ((List.range 15).all fun m => rowOk (m + 1)) = true := by decide +kernel
def artOk (i : Nat) : Bool := decide (elemD (arr 0 i) = none) && decide (classD (arr 0 i) = tn i) && decide (ofD (tn i) = arr 0 i) &&
  ((List.range 4).all fun d => refD (arr d i) && decide (knownD (arr d i) = [tn i])) && ((List.range 3).all fun d => decide (elemD (arr (d + 1) i) = some (arr d i)) && decide (classD (arr (d + 1) i) = [])) &&
  (List.range 15).all fun j => ((chT i).contains (tn j) == decide (j ≤ i)) && ((tn i == tn j) == decide (i = j)) && decide ((((chT i).find? fun s => (chT j).contains s).getD []) = tn (min i j))
theorem artOk_all : ((List.range 15).all artOk) = true := by decide +kernel
theorem tree_link {n : Nat} (h1 : 1 ≤ n) (h2 : n ≤ 15) : linkD (treeL n) = .ok (treeP n) ∧ FitP (some (treeP n)) := by
  have hk : linkOk n = true := by
    have := List.all_eq_true.1 linkOk_all (n - 1) (List.mem_range.2 (by omega))
    rwa [show n - 1 + 1 = n by omega] at this
  unfold linkOk at hk
  simp only [Bool.and_eq_true, decide_eq_true_eq] at hk
  obtain ⟨⟨⟨hn, hc⟩, hd⟩, hr⟩ := hk
  have hp : progD (treeL n) = treeP n := sortC_isort hn
  have hl : (treeL n).length ≤ 30 := by simp [treeL]; omega
  have hck : ∀ c ∈ treeL n, checkC c = 0 := fun c h => by simpa using List.all_eq_true.1 hc c h
  refine ⟨?_, by rw [← hp]; exact fitP_prog hl fun c h => checkC_small (hck c h)⟩
  unfold linkD
  rw [if_neg (by omega)]
  have hf : ((treeL n).find? fun c => checkC c != 0) = none := by
    rw [List.find?_eq_none]
    intro c h
    simp [hck c h]
  rw [hf]
  dsimp only
  rw [Option.isNone_iff_eq_none.1 hd]
  dsimp only
  rw [hp]
  have hb : firstBad (rulesD (some (treeP n))) (treeL n) = none := by
    unfold firstBad
    rw [List.findSome?_eq_none_iff]
    intro k hk
    rw [List.find?_eq_none]
    intro c h
    have := List.all_eq_true.1 (List.all_eq_true.1 hr k hk) c h
    simp [this]
  rw [hb]
theorem tree_row {n : Nat} (h1 : 1 ≤ n) (h2 : n ≤ 15) : MeetP (some (treeP n)) ∧ ∀ i, i < n → chainD (some (treeP n)) (tn i) = chT i ∧ ifacesD (some (treeP n)) (tn i) = [] ∧ (findP (some (treeP n)) (tn i)).isSome = true ∧ ((findP (some (treeP n)) (tn i)).getD zeroC).face = false := by
  have hk : rowOk n = true := by
    have := List.all_eq_true.1 rowOk_all (n - 1) (List.mem_range.2 (by omega))
    rwa [show n - 1 + 1 = n by omega] at this
  unfold rowOk at hk
  rw [Bool.and_eq_true] at hk
  refine ⟨meet_of hk.1, fun i hi => ?_⟩
  have := List.all_eq_true.1 hk.2 i (List.mem_range.2 hi)
  simp only [Bool.and_eq_true, decide_eq_true_eq] at this
  obtain ⟨⟨hc, hu⟩, hf⟩ := this
  obtain ⟨c, hc2, hf2⟩ := Option.map_eq_some_iff.1 hf
  have hface : ((findP (some (treeP n)) (tn i)).getD zeroC).face = false := by rw [hc2]; exact hf2
  refine ⟨hc, ?_, by rw [hc2]; rfl, hface⟩
  unfold ifacesD ifaceKeys
  rw [hface, hu, Bool.and_false, Bool.false_and, if_neg (by simp)]
  simp [sortL]
theorem art {i : Nat} (h : i < 15) : artOk i = true := List.all_eq_true.1 artOk_all i (List.mem_range.2 h)
theorem arr_len : ∀ d i, (arr d i).length = d + 4
  | 0, i => rfl
  | d + 1, i => by rw [arr, List.length_cons, arr_len d i]
theorem arr_eq {i j : Nat} (h : (tn i == tn j) = decide (i = j)) : ∀ d, (arr d i == arr d j) = decide (i = j)
  | 0 => by rw [← h]; simp [arr]
  | d + 1 => by rw [← arr_eq h d]; simp [arr]
section
variable {n i j : Nat} (h2 : n ≤ 15) (hi : i < n) (hj : j < n)
include h2 hi hj
theorem art2 : (elemD (arr 0 i) = none ∧ classD (arr 0 i) = tn i ∧ ofD (tn i) = arr 0 i) ∧ (∀ d, d < 4 → refD (arr d i) = true ∧ knownD (arr d i) = [tn i]) ∧ (∀ d, d < 3 → elemD (arr (d + 1) i) = some (arr d i) ∧ classD (arr (d + 1) i) = []) ∧
    (chT i).contains (tn j) = decide (j ≤ i) ∧ (tn i == tn j) = decide (i = j) ∧ ((chT i).find? fun s => (chT j).contains s).getD [] = tn (min i j) := by
  have h := art (show i < 15 by omega)
  unfold artOk at h
  simp only [Bool.and_eq_true, decide_eq_true_eq, List.all_eq_true, List.mem_range, beq_iff_eq] at h
  obtain ⟨⟨⟨⟨⟨a, b⟩, c⟩, d⟩, e⟩, f⟩ := h
  obtain ⟨⟨f1, f2⟩, f3⟩ := f j (by omega)
  exact ⟨⟨a, b, c⟩, d, e, f1, f2, f3⟩
theorem tree_sub (h1 : 1 ≤ n) : subcD (some (treeP n)) (tn i) (tn j) = decide (j ≤ i) := by
  obtain ⟨_, hr⟩ := tree_row h1 h2
  obtain ⟨hc, hf, _⟩ := hr i hi
  unfold subcD
  rw [hc, hf, (art2 h2 hi hj).2.2.2.1]
  simp
theorem tree_com (h1 : 1 ≤ n) : commonD (some (treeP n)) (tn i) (tn j) = tn (min i j) := by
  obtain ⟨_, hr⟩ := tree_row h1 h2
  obtain ⟨hci, _, hsi, hfi⟩ := hr i hi
  obtain ⟨hcj, _, hsj, hfj⟩ := hr j hj
  obtain ⟨_, _, _, _, he, hm⟩ := art2 h2 hi hj
  unfold commonD
  rw [hsi, hsj, hfi, hfj, he, hci, hcj, hm]
  rw [if_neg (by simp)]
  by_cases e : i = j
  · subst e; simp
  · rw [if_neg (by simpa using e), if_neg (by simp)]
theorem tree_kn (h1 : 1 ≤ n) (d : Nat) (hd : d ≤ 3) : kn (some (treeP n)) (arr d i) = true := by
  obtain ⟨_, hr⟩ := tree_row h1 h2
  obtain ⟨_, _, hs, _⟩ := hr i hi
  obtain ⟨_, h, _⟩ := art2 h2 hi hj
  obtain ⟨h3, h4⟩ := h d (by omega)
  unfold refD at h3
  simp only [Bool.and_eq_true] at h3
  unfold kn knP
  rw [h3.1.1, h4]
  simp [hs]
theorem tree_goT (h1 : 1 ≤ n) : ∀ d, d ≤ 3 → ∀ m, d < m → goT (some (treeP n)) m (arr d i) (arr d j) = decide (j ≤ i) := by
  intro d
  induction d with
  | zero =>
    intro _ m hm
    obtain ⟨m, rfl⟩ : ∃ k, m = k + 1 := ⟨m - 1, by omega⟩
    obtain ⟨⟨a, b, _⟩, _, _, _, he, _⟩ := art2 h2 hi hj
    obtain ⟨⟨_, b2, _⟩, _⟩ := art2 h2 hj hi
    rw [goT, arr_eq he 0]
    by_cases e : i = j
    · subst e; simp
    · rw [if_neg (by simpa using e), a, b, b2, if_neg (by simp), if_pos (by simp [tn])]
      exact tree_sub h2 hi hj h1
  | succ d ih =>
    intro hd m hm
    obtain ⟨m, rfl⟩ : ∃ k, m = k + 1 := ⟨m - 1, by omega⟩
    obtain ⟨_, f, g, _, he, _⟩ := art2 h2 hi hj
    obtain ⟨_, f2, g2, _⟩ := art2 h2 hj hi
    rw [goT, arr_eq he (d + 1)]
    by_cases e : i = j
    · subst e; simp
    · obtain ⟨x1, x2⟩ := g d (by omega)
      obtain ⟨y1, y2⟩ := g2 d (by omega)
      rw [if_neg (by simpa using e), x1, y1, x2, y2, if_neg (by simp [objectS]), if_neg (by simp), if_pos (by simp [(f d (by omega)).1, (f2 d (by omega)).1])]
      exact ih (by omega) m (by omega)
theorem tree_goM (h1 : 1 ≤ n) : ∀ d, d ≤ 3 → ∀ m, d < m → ∀ r, goM (some (treeP n)) m r (arr d i) (arr d j) = r ++ arr d (min i j) := by
  have hmn : ofD (tn (min i j)) = arr 0 (min i j) := (art2 h2 (show min i j < n by omega) hj).1.2.2
  intro d
  induction d with
  | zero =>
    intro _ m hm r
    obtain ⟨m, rfl⟩ : ∃ k, m = k + 1 := ⟨m - 1, by omega⟩
    obtain ⟨⟨a, b, _⟩, _, _, _, he, _⟩ := art2 h2 hi hj
    obtain ⟨⟨_, b2, _⟩, _⟩ := art2 h2 hj hi
    rw [goM, arr_eq he 0]
    by_cases e : i = j
    · subst e; simp
    · have hrf : refD [] = false := by decide
      rw [if_neg (by simpa using e), a, b, b2, if_neg (by simp [hrf]), if_pos (by simp [tn]), tree_com h2 hi hj h1, hmn]
  | succ d ih =>
    intro hd m hm r
    obtain ⟨m, rfl⟩ : ∃ k, m = k + 1 := ⟨m - 1, by omega⟩
    obtain ⟨_, f, g, _, he, _⟩ := art2 h2 hi hj
    obtain ⟨_, f2, g2, _⟩ := art2 h2 hj hi
    rw [goM, arr_eq he (d + 1)]
    by_cases e : i = j
    · subst e; simp
    · rw [if_neg (by simpa using e), (g d (by omega)).1, (g2 d (by omega)).1, if_pos (by simp [(f d (by omega)).1, (f2 d (by omega)).1])]
      show goM (some (treeP n)) m (r ++ [91]) (arr d i) (arr d j) = _
      rw [ih (by omega) m (by omega)]
      simp [arr]
theorem tree_type (h1 : 1 ≤ n) (d : Nat) (hd : d ≤ 3) : typeD (some (treeP n)) (arr d i) (arr d j) = decide (j ≤ i) := by
  unfold typeD
  rw [tree_kn h2 hi hj h1 d hd, tree_kn h2 hj hi h1 d hd, if_neg (by simp)]
  exact tree_goT h2 hi hj h1 d hd _ (by rw [arr_len]; omega)
theorem tree_merge (h1 : 1 ≤ n) (d : Nat) (hd : d ≤ 3) : mergeD (some (treeP n)) (arr d i) (arr d j) = arr d (min i j) := by
  unfold mergeD
  rw [tree_kn h2 hi hj h1 d hd, tree_kn h2 hj hi h1 d hd, ((art2 h2 hi hj).2.1 d (by omega)).1, ((art2 h2 hj hi).2.1 d (by omega)).1, if_neg (by simp)]
  rw [tree_goM h2 hi hj h1 d hd _ (by rw [arr_len]; omega)]
  rfl
end
theorem tree_top {n i : Nat} (h2 : n ≤ 15) (hi : i < n) (h1 : 1 ≤ n) : subcD (some (treeP n)) (tn i) objectS = true := by
  obtain ⟨_, hr⟩ := tree_row h1 h2
  obtain ⟨hc, _⟩ := hr i hi
  unfold subcD
  rw [hc]
  simp [chT]

section
variable {P : Program} {n : Nat} {fr : Fr} {w : World} {k : Kt} {ops : Array Oper} {rest : List Oper} {o : Oper}
theorem ycast {S : World → Prop} {p : List (Nat × Bool)} {d : Nat} {v v' : Value} (h : YldS P n ops fr S o d p v) (e : v = v') : YldS P n ops fr S o d p v' := e ▸ h
/-- Two texts are put together, whatever the world. -/
theorem yl_cat {S : World → Prop} {p : List (Nat × Bool)} {d : Nat} {x y : Operand} {t yt ty : TypeId} {pos : String} {aft : Array Edge} {gd : Option (Nat × Bool)} {a b r : L}
    (hp : pathOf ops fr ⟨some d, .binOp .add t x y yt, ty, pos, aft, gd⟩ = some p) (hx : gv fr p x = some (.string (mkS a))) (hy : gv fr p y = some (.string (mkS b)))
    (hck : (decide (d < n) && fresh d fr && freshP d p) = true) (hl : satB fr p = true → a.length + b.length ≤ 9223372036854775807) (hr : a ++ b = r) :
    YldS P n ops fr S ⟨some d, .binOp .add t x y yt, ty, pos, aft, gd⟩ d p (.string (mkS r)) := by
  simp only [Bool.and_eq_true] at hck
  obtain ⟨h1, h2⟩ := gv_ok hx
  obtain ⟨h3, h4⟩ := gv_ok hy
  refine yl_val hp rfl (by simpa [Op.operands] using okO_two h1 h3) rfl hck.1.1 hck.1.2 hck.2 (fun w _ hs => ?_)
  subst hr
  have := run_string_add_sum (P := P) (w := w) (mkS a) (mkS b) (by rw [mkS_size, mkS_size]; exact hl hs)
  have e : mkS a ++ mkS b = mkS (a ++ b) := ByteArray.mk_append_mk a b
  rw [e] at this
  simp [execOp, h2, h4, binOp, eqGuard, this]
/-- The least of two. -/
theorem yl_min {S : World → Prop} {p : List (Nat × Bool)} {d : Nat} {x y : Operand} {ts : Array TypeId} {ty : TypeId} {pos : String} {aft : Array Edge} {gd : Option (Nat × Bool)} {a b r : Int}
    (hp : pathOf ops fr ⟨some d, .call { callee := .builtin .min, args := #[x, y], argTypes := ts }, ty, pos, aft, gd⟩ = some p) (hok : okO fr p [x, y] = true) (hx : evG fr x = .int .i64 a) (hy : evG fr y = .int .i64 b)
    (hn : decide (d < n) = true) (hf : fresh d fr = true) (hfp : freshP d p = true) (hr : (if b < a then b else a) = r) :
    YldS P n ops fr S ⟨some d, .call { callee := .builtin .min, args := #[x, y], argTypes := ts }, ty, pos, aft, gd⟩ d p (.int .i64 r) :=
  yl_val hp rfl hok rfl hn hf hfp (fun w _ _ => by
    subst hr
    simp [execOp, resolve, invoke, builtin, hx, hy, run_min_int2])
/-- The rest of a division by what is not nought. -/
theorem WL_rem {p : List (Nat × Bool)} {d : Nat} {x y : Operand} {t yt ty : TypeId} {pos : String} {aft : Array Edge} {gd : Option (Nat × Bool)} {a b : Int}
    (hp : pathOf ops fr ⟨some d, .binOp .rem t x y yt, ty, pos, aft, gd⟩ = some p) (hok : okO fr p [x, y] = true) (hx : evG fr x = .int .i64 a) (hy : evG fr y = .int .i64 b)
    (hn : decide (d < n) = true) (hf : fresh d fr = true) (hfp : freshP d p = true) (hr : satB fr p = true → b ≠ 0)
    (h : WL P n ops rest ((d, p, .int .i64 (a.tmod b)) :: fr) w k) : WL P n ops (⟨some d, .binOp .rem t x y yt, ty, pos, aft, gd⟩ :: rest) fr w k :=
  WL_val hp rfl hok rfl hn hf hfp (fun hs => by
    have := hr hs
    simp [execOp, hx, hy, binOp, eqGuard, Op.intDiv, this]) h
/-- A number is made a byte. -/
theorem WL_u8 {p : List (Nat × Bool)} {d : Nat} {x : Operand} {s t ty : TypeId} {pos : String} {aft : Array Edge} {gd : Option (Nat × Bool)} {a : Int}
    (hp : pathOf ops fr ⟨some d, .convert s t x, ty, pos, aft, gd⟩ = some p) (hok : okO fr p [x] = true) (hx : evG fr x = .int .i64 a) (hs : (P.underlying s).isSome = true) (ht : P.underlying t = some (.int .u8))
    (hn : decide (d < n) = true) (hf : fresh d fr = true) (hfp : freshP d p = true) (hr : satB fr p = true → IntKind.u8.wrap a = a)
    (h : WL P n ops rest ((d, p, .int .u8 a) :: fr) w k) : WL P n ops (⟨some d, .convert s t x, ty, pos, aft, gd⟩ :: rest) fr w k :=
  WL_val hp rfl hok rfl hn hf hfp (fun hs' => by
    obtain ⟨d', hd'⟩ := Option.isSome_iff_exists.mp hs
    have e := hr hs'
    simp [execOp, hx, convert, run_underlying hd', run_underlying ht, Conv.intToInt, e]) h
/-- Bytes are made a text. -/
theorem WL_bstr {p : List (Nat × Bool)} {d : Nat} {x : Operand} {s e t ty : TypeId} {pos : String} {aft : Array Edge} {gd : Option (Nat × Bool)} {g m c : Nat} {xs : List Int} {l : L}
    (hp : pathOf ops fr ⟨some d, .convert s t x, ty, pos, aft, gd⟩ = some p) (hok : okO fr p [x] = true) (hx : evG fr x = .slice (some ⟨g, 0, none⟩) m c) (hs : P.underlying s = some (.slice e)) (he : P.underlying e = some (.int .u8)) (ht : P.underlying t = some .string)
    (hn : decide (d < n) = true) (hf : fresh d fr = true) (hfp : freshP d p = true) (hlen : xs.length = m) (hc : ∀ i, i < m → w.cell? ⟨g, 0 + i, none⟩ = some (.int .u8 (xs.getD i 0))) (hl : (xs.map fun n => UInt8.ofNat n.toNat) = l)
    (h : WL P n ops rest ((d, p, .string (mkS l)) :: fr) w k) : WL P n ops (⟨some d, .convert s t x, ty, pos, aft, gd⟩ :: rest) fr w k :=
  WL_val hp rfl hok rfl hn hf hfp (fun _ => by
    have := run_convert_bytes_arg (P := P) w s e hs he g 0 m c xs hlen hc t ht
    subst hl
    simp [execOp, hx, this, strOfNums, mkS]) h
end
theorem tmod_le (a : Int) (n : Nat) (h : 0 < n) : -(n : Int) < a.tmod n ∧ a.tmod n < n := by
  have h1 := Int.tmod_lt_of_pos a (b := (n : Int)) (by omega)
  have h2 := Int.lt_tmod_of_pos a (b := (n : Int)) (by omega)
  exact ⟨h2, h1⟩
theorem enters_round : Enters Tryz.prog 24 := enters_of Tryz.func24 (by kernel_rfl) rfl
theorem round_any (a : Int) (n : Nat) (w : World) (h : 0 < n) (hn : n ≤ 1000) : Calls Tryz.prog 24 #[.int .i64 a, .int .i64 n] w fun e w' => ∃ i : Nat, i < n ∧ e = .returned (.int .i64 i) ∧ w = w' := by
  refine calls_W (args := [.int .i64 a, .int .i64 n]) Tryz.func24 rfl rfl rfl ?_
  obtain ⟨h1, h2⟩ := tmod_le a n h
  refine Wg rfl (W_region ?_)
  repeat (first | refine WL1 rfl ?_ | refine WLe rfl rfl ?_ | refine W_region ?_ | refine WL2 inf rfl ?_ | refine WL_ld inf rfl rfl rfl rfl (Blk.cell (by assumption) rfl) ?_)
  refine WL_rem rfl rfl rfl rfl rfl rfl rfl (fun _ => by omega) ?_
  generalize a.tmod n = r at h1 h2
  repeat (first | refine WL1 rfl ?_ | refine WLe rfl rfl ?_ | refine W_region ?_ | refine WL2 inf rfl ?_ | refine WL_ld inf rfl rfl rfl rfl (Blk.cell (by assumption) rfl) ?_)
  refine W_cut (fun i : Nat => [(0, [], .int .i64 i)]) (fun i W => i < n ∧ w = W) ?_ ?_
  · refine W_cond rfl rfl (fun hb => ?_) (fun hb => ?_)
    · have hb' : r < 0 := by simpa using hb
      refine Wg rfl (W_region ?_)
      repeat (first | refine WL1 rfl ?_ | refine WLe rfl rfl ?_ | refine W_region ?_ | refine WL2 inf rfl ?_ | refine WL_ld inf rfl rfl rfl rfl (Blk.cell (by assumption) rfl) ?_)
      refine WL_add rfl rfl rfl rfl rfl rfl rfl (fun _ => by omega) ?_
      repeat (first | refine WL1 rfl ?_ | refine WLe rfl rfl ?_ | refine W_region ?_ | refine WL2 inf rfl ?_ | refine WL_ld inf rfl rfl rfl rfl (Blk.cell (by assumption) rfl) ?_)
      obtain ⟨i, hi⟩ : ∃ i : Nat, r + n = i := ⟨(r + n).toNat, by omega⟩
      rw [hi]
      exact WLm rfl i ⟨by omega, rfl⟩ rfl ⟨rfl, trivial⟩
    · have hb' : ¬ r < 0 := by simpa using hb
      obtain ⟨i, rfl⟩ : ∃ i : Nat, r = i := ⟨r.toNat, by omega⟩
      exact Wm rfl i ⟨by omega, rfl⟩ rfl ⟨rfl, trivial⟩
  · rintro i W ⟨hi, rfl⟩
    refine Wg rfl (W_region ?_)
    repeat (first | refine WL1 rfl ?_ | refine WLe rfl rfl ?_ | refine W_region ?_ | refine WL2 inf rfl ?_ | refine WL_ld inf rfl rfl rfl rfl (Blk.cell (by assumption) rfl) ?_)
    exact W_ret1 rfl rfl rfl ⟨i, hi, rfl, rfl⟩

def niS : Value := .slice none 0 0
def celT (c : Cls) : List Value := Cls.cs c niS niS niS
theorem treeL_succ (k : Nat) : treeL (k + 1) = treeL k ++ [treeC k] := by unfold treeL; rw [List.range_succ, List.map_append]; rfl
theorem upT_len : ∀ k, (upT k).length ≤ 6
  | 0 => by decide
  | k + 1 => by simp [upT, tn]
theorem treeEach (B : Nat → Prop) (w : World) : ∀ l : List Nat, Each (ClsR B w) (l.map treeC) ((l.map treeC).map celT)
  | [] => trivial
  | i :: r => ⟨⟨_, _, _, rfl, by simp [treeC, tn, Len], by have := upT_len i; simp [treeC, Len]; omega, Sl.nil _ _ _ _, Sl.nil _ _ _ _, Sl.nil _ _ _ _⟩, treeEach B w r⟩
theorem tree_at {n : Nat} {base : Nat} {w : World} {v : Value} (h : OwnR base 44 7 w v ((treeL n).map celT)) (h1 : 1 ≤ n) : ∃ g c, v = .slice (some ⟨g, 0, none⟩) n c ∧ ∀ i, i < n → CellsAt w ((⟨g, 0, none⟩ : Addr).add (i * 7)) (celT (treeC i)) := by
  have hl : ((treeL n).map celT).length = n := by simp [treeL]
  have hat : ∀ i, i < n → ((treeL n).map celT)[i]? = some (celT (treeC i)) := fun i hi => by simp [treeL, hi]
  obtain ⟨g, c, hv, _, _, _⟩ := h.cells (hat 0 (by omega))
  rw [hl] at hv
  refine ⟨g, c, hv, fun i hi => ?_⟩
  obtain ⟨g', c', hv', _, _, hc⟩ := h.cells (hat i hi)
  rw [hl, hv] at hv'
  cases hv'
  exact hc
theorem u8_in {i : Nat} (h : i < 15) : IntKind.u8.wrap (97 + (i : Int)) = 97 + i := by
  have : ∀ i : Fin 15, IntKind.u8.wrap (97 + (i.val : Int)) = 97 + i.val := by decide
  exact this ⟨i, h⟩
theorem enters_tree : Enters Tryz.prog 8 := enters_of Tryz.func8 (by kernel_rfl) rfl
set_option maxRecDepth 100000 in
set_option maxHeartbeats 8000000 in
theorem tree_any (n0 a0 b0 d0 : Int) (w : World) :
    Calls Tryz.prog 8 #[.int .i64 n0, .int .i64 a0, .int .i64 b0, .int .i64 d0] w fun e w' => e = .returned (.bool true) ∧ Ext w w' := by
  refine calls_W (args := [.int .i64 n0, .int .i64 a0, .int .i64 b0, .int .i64 d0]) Tryz.func8 rfl rfl rfl ?_
  refine Wg rfl (W_region ?_)
  repeat (first | refine WL1 rfl ?_ | refine WLe rfl rfl ?_ | refine W_region ?_ | refine WL2 inf rfl ?_ | refine WL_ld inf rfl rfl rfl rfl (Blk.cell (by assumption) rfl) ?_)
  refine W_cond rfl rfl (fun hb => ?_) (fun hb => ?_)
  · refine Wg rfl (W_region ?_)
    refine WL_call rfl rfl rfl rfl rfl enters_awake7 rfl (awake7_any _) ?_
    rintro e w4 ⟨rfl, hE4⟩
    refine ⟨_, rfl, ?_⟩
    repeat (first | refine WL1 rfl ?_ | refine WLe rfl rfl ?_ | refine W_region ?_ | refine WL2 inf rfl ?_ | refine WL_ld inf rfl rfl rfl rfl (Blk.cell (by assumption) rfl) ?_)
    exact W_ret1 rfl rfl rfl ⟨rfl, hE4⟩
  have hb' : (decide (n0 < 1) || decide (n0 > 15) || decide (d0 < 0) || decide (d0 > 3)) = false := hb
  simp only [Bool.or_eq_false_iff, decide_eq_false_iff_not] at hb'
  clear hb
  obtain ⟨n, rfl⟩ : ∃ n : Nat, n0 = n := ⟨n0.toNat, by omega⟩
  obtain ⟨d, rfl⟩ : ∃ d : Nat, d0 = d := ⟨d0.toNat, by omega⟩
  have h1 : 1 ≤ n := by omega
  have h2 : n ≤ 15 := by omega
  have h3 : d ≤ 3 := by omega
  clear hb'
  refine Wg rfl (W_region ?_)
  repeat (first | refine WL1 rfl ?_ | refine WLe rfl rfl ?_ | refine W_region ?_ | refine WL2 inf rfl ?_ | refine WL_ld inf rfl rfl rfl rfl (Blk.cell (by assumption) rfl) ?_)
  refine W_loop (fun x : Nat × Value => [(0, [], .int .i64 n), (1, [], .int .i64 a0), (2, [], .int .i64 b0), (3, [], .int .i64 d), (9, [], .string (mkS (upT x.1))), (10, [], x.2), (11, [], .int .i64 x.1)])
    (fun x W => Ext w W ∧ x.1 ≤ n ∧ OwnR w.heap.size 44 7 W x.2 ((treeL x.1).map celT)) (fun x => n - x.1) (0, .slice none 0 0) (fun _ => rfl) ⟨rfl, rfl, rfl, rfl, rfl, rfl, rfl, trivial⟩ ⟨Ext.rfl' w, Nat.zero_le _, OwnR.nil _ _ _ _⟩ ?_
  rintro ⟨k, v⟩ W ⟨hE, hk, hown⟩
  dsimp only at hk hown ⊢
  refine Wg rfl (W_region ?_)
  repeat (first | refine WL1 rfl ?_ | refine WLe rfl rfl ?_ | refine W_region ?_ | refine WL2 inf rfl ?_ | refine WL_ld inf rfl rfl rfl rfl (Blk.cell (by assumption) rfl) ?_)
  refine W_cond rfl rfl (fun hc => ?_) (fun hc => ?_)
  · have hlt : k < n := by simpa using hc
    have hul := upT_len k
    refine Wg rfl (W_region ?_)
    repeat (first | refine WL1 rfl ?_ | refine WLe rfl rfl ?_ | refine W_region ?_ | refine WL2 inf rfl ?_ | refine WL_ld inf rfl rfl rfl rfl (Blk.cell (by assumption) rfl) ?_)
    refine WL_add rfl rfl rfl rfl rfl rfl rfl (fun _ => by omega) ?_
    refine WL_u8 rfl rfl rfl (by rw [Tryz.underlying3]; rfl) Tryz.underlying5 rfl rfl rfl (fun _ => u8_in (by omega)) ?_
    refine WL_bsl (cs := [.int .u8 (97 + k)]) rfl rfl rfl rfl rfl (bs39_1 _ _) ?_
    rintro h w1 e1 hh hE1
    subst e1
    refine WL_bstr (xs := [97 + (k : Int)]) (l := [UInt8.ofNat (97 + k)]) rfl rfl rfl Tryz.underlying39 Tryz.underlying5 tS rfl rfl rfl rfl (fun i hi => by
      obtain rfl : i = 0 := by omega
      exact hh.cell rfl) (by rw [List.map_cons, List.map_nil, show (97 + (k : Int)).toNat = 97 + k by omega]) ?_
    refine WL_cat (a := [75]) (r := tn k) rfl rfl rfl rfl (fun _ => by simp) rfl ?_
    repeat (first | refine WL1 rfl ?_ | refine WLe rfl rfl ?_ | refine W_region ?_ | refine WL2 inf rfl ?_ | refine WL_ld inf rfl rfl rfl rfl (Blk.cell (by assumption) rfl) ?_)
    refine WL_bld rfl rfl rfl rfl (bldCb _ _) ?_
    refine WL_bsl (cs := celT (treeC k)) rfl rfl rfl rfl rfl (bsCls (celT (treeC k)) _ _ _ _ _ _ _ rfl _) ?_
    rintro h' w2 e2 hh2 hE2
    have hz1 := hE1.size
    have hz2 := hE2.size
    have hz := hE.size
    refine WL_app ei (ncs := [celT (treeC k)]) rfl rfl rfl rfl rfl rfl ((hown.ext hE1).ext hE2) (by simpa using hh2.cells) rfl (by simp [celT, Cls.cs]) (by simp [celT, Cls.cs, niS, treeC, Value.oneCell']) (by simp [treeL]; omega) (by omega) ?_
    rintro v4 w4 hown4 hg4 hr4
    have hE4 : Ext w w4 := grown_ext hg4 ((hE.then_ hE1).then_ hE2) fun b hb => (hown.own b hb).1
    repeat (first | refine WL1 rfl ?_ | refine WLe rfl rfl ?_ | refine W_region ?_ | refine WL2 inf rfl ?_ | refine WL_ld inf rfl rfl rfl rfl (Blk.cell (by assumption) rfl) ?_)
    refine WL_add rfl rfl rfl rfl rfl rfl rfl (fun _ => by omega) ?_
    repeat (first | refine WL1 rfl ?_ | refine WLe rfl rfl ?_ | refine W_region ?_ | refine WL2 inf rfl ?_ | refine WL_ld inf rfl rfl rfl rfl (Blk.cell (by assumption) rfl) ?_)
    exact WLr rfl (k + 1, v4) (by simp only; omega) ⟨hE4, hlt, by rw [treeL_succ, List.map_append]; exact hown4⟩ rfl ⟨rfl, rfl, rfl, rfl, rfl, rfl, rfl, trivial⟩
  obtain rfl : k = n := by have : ¬ ((k : Int) < n) := by simpa using hc
                           omega
  clear hc hk
  have hsl : Sl ClsR 7 (fun b => b < W.heap.size) W v (treeL k) := hown.sl (treeEach _ _ _) fun b hb => (hown.own b hb).2
  obtain ⟨g, c, rfl, hat⟩ := tree_at hown h1
  obtain ⟨hlink, hfit⟩ := tree_link h1 h2
  have hmeet := (tree_row h1 h2).1
  refine Wg rfl (W_region ?_)
  repeat (first | refine WL1 rfl ?_ | refine WLe rfl rfl ?_ | refine W_region ?_ | refine WL2 inf rfl ?_ | refine WL_ld inf rfl rfl rfl rfl (Blk.cell (by assumption) rfl) ?_)
  refine WL_call rfl rfl rfl rfl rfl enters_classes rfl (classes_any (treeL k) _ W hsl fun _ h => h) ?_
  rintro e w5 ⟨hE5, hL⟩
  rw [hlink] at hL
  obtain ⟨q, rfl, hPA⟩ := hL
  refine ⟨_, rfl, ?_⟩
  have hP : PrgV w5 (.pointer (some ⟨q, 0, none⟩)) (some (treeP k)) := ⟨q, rfl, hPA⟩
  replace hat := fun i hi => (hat i hi).ext hE5
  have hEw := hE.then_ hE5
  repeat (first | refine WL1 rfl ?_ | refine WLe rfl rfl ?_ | refine W_region ?_ | refine WL2 inf rfl ?_ | refine WL_ld inf rfl rfl rfl rfl (Blk.cell (by assumption) rfl) ?_)
  refine W_cond rfl rfl (fun hb => by cases hb) (fun _ => ?_)
  refine Wg rfl (W_region ?_)
  repeat (first | refine WL1 rfl ?_ | refine WLe rfl rfl ?_ | refine W_region ?_ | refine WL2 inf rfl ?_ | refine WL_ld inf rfl rfl rfl rfl (Blk.cell (by assumption) rfl) ?_)
  refine WL_call rfl rfl rfl rfl rfl enters_round rfl (round_any a0 k _ (by omega) (by omega)) ?_
  rintro e w6 ⟨i, hi, rfl, rfl⟩
  refine ⟨_, rfl, ?_⟩
  repeat (first | refine WL1 rfl ?_ | refine WLe rfl rfl ?_ | refine W_region ?_ | refine WL2 inf rfl ?_ | refine WL_ld inf rfl rfl rfl rfl (Blk.cell (by assumption) rfl) ?_)
  refine WL_call rfl rfl rfl rfl rfl enters_round rfl (round_any b0 k _ (by omega) (by omega)) ?_
  rintro e w6 ⟨j, hj, rfl, rfl⟩
  refine ⟨_, rfl, ?_⟩
  have hm : min i j < k := by omega
  have hmin : (if (j : Int) < i then (j : Int) else i) = ((min i j : Nat) : Int) := by split <;> omega
  repeat (first | refine WL1 rfl ?_ | refine WLe rfl rfl ?_ | refine W_region ?_ | refine WL2 inf rfl ?_ | refine WL_ld inf rfl rfl rfl rfl (Blk.cell (by assumption) rfl) ?_)
  have hatd := fun i hi => (hat i hi).ext (Ext.drew_ w5)
  refine W_draws (fun W' => Ext w5.drew W') [] mixed_ ?_
  refine WDp 0 rfl (by first | exact stepV_yl _ rfl | exact stepI_yl _ inf rfl) (by kernel_rfl) ?_
  refine WDp 1 rfl (by first | exact stepV_yl _ rfl | exact stepI_yl _ inf rfl) (by kernel_rfl) ?_
  refine WDp 2 rfl (yl_ix inf rfl rfl rfl rfl rfl (fun _ => ⟨by omega, by omega⟩)) (by kernel_rfl) ?_
  refine WDp 3 rfl (by first | exact stepV_yl _ rfl | exact stepI_yl _ inf rfl) (by kernel_rfl) ?_
  refine WDq 4 rfl (yl_ld inf rfl rfl rfl rfl (fun W' hS => ((hatd i hi).ext hS).at_ (j := 0) rfl)) (Ext.rfl' _) (by kernel_rfl) ?_
  refine WDp 5 rfl (yl_cat (a := [76]) (b := tn i) (r := 76 :: tn i) rfl rfl rfl rfl (fun _ => by simp [tn]) rfl) (by kernel_rfl) ?_
  refine WDp 6 rfl (yl_cat (a := 76 :: tn i) (b := [59]) (r := arr 0 i) rfl rfl rfl rfl (fun _ => by simp [tn]) rfl) (by kernel_rfl) ?_
  refine WDp 7 rfl (by first | exact stepV_yl _ rfl | exact stepI_yl _ inf rfl) (by kernel_rfl) ?_
  refine WDp 8 rfl (by first | exact stepV_yl _ rfl | exact stepI_yl _ inf rfl) (by kernel_rfl) ?_
  refine WDp 9 rfl (yl_ix inf rfl rfl rfl rfl rfl (fun _ => ⟨by omega, by omega⟩)) (by kernel_rfl) ?_
  refine WDp 10 rfl (by first | exact stepV_yl _ rfl | exact stepI_yl _ inf rfl) (by kernel_rfl) ?_
  refine WDq 11 rfl (yl_ld inf rfl rfl rfl rfl (fun W' hS => ((hatd j hj).ext hS).at_ (j := 0) rfl)) (Ext.rfl' _) (by kernel_rfl) ?_
  refine WDp 12 rfl (yl_cat (a := [76]) (b := tn j) (r := 76 :: tn j) rfl rfl rfl rfl (fun _ => by simp [tn]) rfl) (by kernel_rfl) ?_
  refine WDp 13 rfl (yl_cat (a := 76 :: tn j) (b := [59]) (r := arr 0 j) rfl rfl rfl rfl (fun _ => by simp [tn]) rfl) (by kernel_rfl) ?_
  refine WDp 14 rfl (by first | exact stepV_yl _ rfl | exact stepI_yl _ inf rfl) (by kernel_rfl) ?_
  refine WDp 15 rfl (by first | exact stepV_yl _ rfl | exact stepI_yl _ inf rfl) (by kernel_rfl) ?_
  refine WDp 16 rfl (by first | exact stepV_yl _ rfl | exact stepI_yl _ inf rfl) (by kernel_rfl) ?_
  refine WDp 17 rfl (yl_min rfl rfl rfl rfl rfl rfl rfl hmin) (by kernel_rfl) ?_
  refine WDp 18 rfl (yl_ix inf rfl rfl rfl rfl rfl (fun _ => ⟨by omega, by omega⟩)) (by kernel_rfl) ?_
  refine WDp 19 rfl (by first | exact stepV_yl _ rfl | exact stepI_yl _ inf rfl) (by kernel_rfl) ?_
  refine WDq 20 rfl (yl_ld inf rfl rfl rfl rfl (fun W' hS => ((hatd (min i j) hm).ext hS).at_ (j := 0) rfl)) (Ext.rfl' _) (by kernel_rfl) ?_
  refine WDp 21 rfl (yl_cat (a := [76]) (b := tn (min i j)) (r := 76 :: tn (min i j)) rfl rfl rfl rfl (fun _ => by simp [tn]) rfl) (by kernel_rfl) ?_
  refine WDp 22 rfl (yl_cat (a := 76 :: tn (min i j)) (b := [59]) (r := arr 0 (min i j)) rfl rfl rfl rfl (fun _ => by simp [tn]) rfl) (by kernel_rfl) ?_
  refine WDp 23 rfl (by first | exact stepV_yl _ rfl | exact stepI_yl _ inf rfl) (by kernel_rfl) ?_
  refine WDp 24 rfl (by first | exact stepV_yl _ rfl | exact stepI_yl _ inf rfl) (by kernel_rfl) ?_
  refine WDp 25 rfl (by first | exact stepV_yl _ rfl | exact stepI_yl _ inf rfl) (by kernel_rfl) ?_
  refine WDe (by kernel_rfl) ?_
  have hP0 : PrgV w5.drew (.pointer (some ⟨q, 0, none⟩)) (some (treeP k)) := hP.ext (Ext.drew_ w5)
  have hEd := hEw.then_ (Ext.drew_ w5)
  generalize w5.drew = w6 at hatd hP0 hEd
  repeat (first | refine WL1 rfl ?_ | refine WLe rfl rfl ?_ | refine W_region ?_ | refine WL2 inf rfl ?_ | refine WL_ld inf rfl rfl rfl rfl (Blk.cell (by assumption) rfl) ?_)
  refine W_loop (fun m : Nat => [(0, [], .int .i64 k), (1, [], .int .i64 i), (2, [], .int .i64 j), (3, [], .int .i64 d), (10, [], .slice (some ⟨g, 0, none⟩) k c), (13, [], .pointer (some ⟨q, 0, none⟩)), (16, [], .string (mkS (arr m i))), (17, [], .string (mkS (arr m j))), (18, [], .string (mkS (arr m (min i j)))), (19, [], .int .i64 m)])
    (fun m W => m ≤ d ∧ w6 = W) (fun m => d - m) 0 (fun _ => rfl) ⟨rfl, rfl, rfl, rfl, rfl, rfl, rfl, rfl, rfl, rfl, trivial⟩ ⟨Nat.zero_le _, rfl⟩ ?_
  rintro m W2 ⟨hmd, rfl⟩
  refine Wg rfl (W_region ?_)
  repeat (first | refine WL1 rfl ?_ | refine WLe rfl rfl ?_ | refine W_region ?_ | refine WL2 inf rfl ?_ | refine WL_ld inf rfl rfl rfl rfl (Blk.cell (by assumption) rfl) ?_)
  refine W_cond rfl rfl (fun hc => ?_) (fun hc => ?_)
  · have hlt : m < d := by simpa using hc
    refine Wg rfl (W_region ?_)
    repeat (first | refine WL1 rfl ?_ | refine WLe rfl rfl ?_ | refine W_region ?_ | refine WL2 inf rfl ?_ | refine WL_ld inf rfl rfl rfl rfl (Blk.cell (by assumption) rfl) ?_)
    refine WL_cat (a := [91]) (b := arr m i) (r := arr (m + 1) i) rfl rfl rfl rfl (fun _ => by rw [arr_len]; simp; omega) rfl ?_
    repeat (first | refine WL1 rfl ?_ | refine WLe rfl rfl ?_ | refine W_region ?_ | refine WL2 inf rfl ?_ | refine WL_ld inf rfl rfl rfl rfl (Blk.cell (by assumption) rfl) ?_)
    refine WL_cat (a := [91]) (b := arr m j) (r := arr (m + 1) j) rfl rfl rfl rfl (fun _ => by rw [arr_len]; simp; omega) rfl ?_
    repeat (first | refine WL1 rfl ?_ | refine WLe rfl rfl ?_ | refine W_region ?_ | refine WL2 inf rfl ?_ | refine WL_ld inf rfl rfl rfl rfl (Blk.cell (by assumption) rfl) ?_)
    refine WL_cat (a := [91]) (b := arr m (min i j)) (r := arr (m + 1) (min i j)) rfl rfl rfl rfl (fun _ => by rw [arr_len]; simp; omega) rfl ?_
    repeat (first | refine WL1 rfl ?_ | refine WLe rfl rfl ?_ | refine W_region ?_ | refine WL2 inf rfl ?_ | refine WL_ld inf rfl rfl rfl rfl (Blk.cell (by assumption) rfl) ?_)
    refine WL_add rfl rfl rfl rfl rfl rfl rfl (fun _ => by omega) ?_
    repeat (first | refine WL1 rfl ?_ | refine WLe rfl rfl ?_ | refine W_region ?_ | refine WL2 inf rfl ?_ | refine WL_ld inf rfl rfl rfl rfl (Blk.cell (by assumption) rfl) ?_)
    exact WLr rfl (m + 1) (by omega) ⟨hlt, rfl⟩ rfl ⟨rfl, rfl, rfl, rfl, rfl, rfl, rfl, rfl, rfl, rfl, trivial⟩
  obtain rfl : m = d := by have : ¬ ((m : Int) < d) := by simpa using hc
                           omega
  clear hc hmd
  have hle : ∀ x, Len (arr m x) := fun x => by unfold Len; rw [arr_len]; omega
  have hlt : ∀ x, Len (tn x) := fun x => by unfold Len; simp [tn]
  have ht1 := tree_type h2 hi hj h1 m h3
  have ht2 := tree_type h2 hj hi h1 m h3
  have hmg := tree_merge h2 hi hj h1 m h3
  have hcm := tree_com h2 hi hj h1
  have htp := tree_top h2 hi h1
  have q1 : (decide (j ≤ i) == decide ((i : Int) ≥ j)) = true := by simp
  have q2 : (decide (i ≤ j) == decide ((j : Int) ≥ i)) = true := by simp
  clear hlink hsl hE hE5 hEw hown hP hat
  have q3 : (bl (mkS (arr m (min i j))) == bl (mkS (arr m (min i j)))) = true := by simp
  have q4 : (bl (mkS (tn (min i j))) == bl (mkS (tn (min i j)))) = true := by simp
  refine Wg rfl ?_
  have hEz := Ext.drew_ w6
  refine W_draws (fun W' => Ext w6.drew W') [] mixed_ ?_
  refine WDp 0 rfl (by first | exact stepV_yl _ rfl | exact stepI_yl _ inf rfl) (by kernel_rfl) ?_
  refine WDp 1 rfl (by first | exact stepV_yl _ rfl | exact stepI_yl _ inf rfl) (by kernel_rfl) ?_
  refine WDp 2 rfl (by first | exact stepV_yl _ rfl | exact stepI_yl _ inf rfl) (by kernel_rfl) ?_
  refine WDp 4 rfl (by first | exact stepV_yl _ rfl | exact stepI_yl _ inf rfl) (by kernel_rfl) ?_
  refine WDp 5 rfl (by first | exact stepV_yl _ rfl | exact stepI_yl _ inf rfl) (by kernel_rfl) ?_
  refine WDp 6 rfl (by first | exact stepV_yl _ rfl | exact stepI_yl _ inf rfl) (by kernel_rfl) ?_
  refine WDl 3 rfl (by kernel_rfl) (WL_call rfl rfl rfl rfl rfl enters_stype rfl (stype_any (some (treeP k)) (arr m i) (arr m j) _ _ (hP0.ext hEz) (hle i) (hle j) hfit) ?_)
  rintro e w7 ⟨rfl, hE7⟩
  refine ⟨_, rfl, WDc (fun h => h.then_ hE7) ?_⟩
  rw [ht1]
  refine WDp 7 rfl (ycast (stepI_yl _ inf rfl) (congrArg Value.bool q1)) (by kernel_rfl) ?_
  refine WDp 8 rfl (by first | exact stepV_yl _ rfl | exact stepI_yl _ inf rfl) (by kernel_rfl) ?_
  refine WDp 9 rfl (by first | exact stepV_yl _ rfl | exact stepI_yl _ inf rfl) (by kernel_rfl) ?_
  refine WDp 10 rfl (by first | exact stepV_yl _ rfl | exact stepI_yl _ inf rfl) (by kernel_rfl) ?_
  refine WDp 11 rfl (by first | exact stepV_yl _ rfl | exact stepI_yl _ inf rfl) (by kernel_rfl) ?_
  refine WDp 13 rfl (by first | exact stepV_yl _ rfl | exact stepI_yl _ inf rfl) (by kernel_rfl) ?_
  refine WDp 14 rfl (by first | exact stepV_yl _ rfl | exact stepI_yl _ inf rfl) (by kernel_rfl) ?_
  refine WDp 15 rfl (by first | exact stepV_yl _ rfl | exact stepI_yl _ inf rfl) (by kernel_rfl) ?_
  refine WDl 12 rfl (by kernel_rfl) (WL_call rfl rfl rfl rfl rfl enters_stype rfl (stype_any (some (treeP k)) (arr m j) (arr m i) _ _ (hP0.ext (hEz.then_ hE7)) (hle j) (hle i) hfit) ?_)
  rintro e w8 ⟨rfl, hE8⟩
  refine ⟨_, rfl, WDc (fun h => h.then_ hE8) ?_⟩
  rw [ht2]
  refine WDp 16 rfl (ycast (stepI_yl _ inf rfl) (congrArg Value.bool q2)) (by kernel_rfl) ?_
  have hE8' := hE7.then_ hE8
  refine WDp 17 rfl (by first | exact stepV_yl _ rfl | exact stepI_yl _ inf rfl) (by kernel_rfl) ?_
  refine WDp 18 rfl (by first | exact stepV_yl _ rfl | exact stepI_yl _ inf rfl) (by kernel_rfl) ?_
  refine WDp 19 rfl (by first | exact stepV_yl _ rfl | exact stepI_yl _ inf rfl) (by kernel_rfl) ?_
  refine WDp 20 rfl (by first | exact stepV_yl _ rfl | exact stepI_yl _ inf rfl) (by kernel_rfl) ?_
  refine WDp 21 rfl (by first | exact stepV_yl _ rfl | exact stepI_yl _ inf rfl) (by kernel_rfl) ?_
  refine WDp 23 rfl (by first | exact stepV_yl _ rfl | exact stepI_yl _ inf rfl) (by kernel_rfl) ?_
  refine WDl 22 rfl (by kernel_rfl) (WL_call rfl rfl rfl rfl rfl enters_smerge rfl (smerge_any (some (treeP k)) (arr m i) (arr m j) _ _ (hP0.ext (hEz.then_ hE8')) (hle i) (hle j) hfit hmeet) ?_)
  rintro e w9 ⟨rfl, hE9⟩
  refine ⟨_, rfl, WDc (fun h => h.then_ hE9) ?_⟩
  rw [hmg]
  have hE9' := hE8'.then_ hE9
  refine WDp 24 rfl (ycast (stepV_yl _ rfl) (congrArg Value.bool q3)) (by kernel_rfl) ?_
  refine WDp 25 rfl (by first | exact stepV_yl _ rfl | exact stepI_yl _ inf rfl) (by kernel_rfl) ?_
  refine WDp 26 rfl (by first | exact stepV_yl _ rfl | exact stepI_yl _ inf rfl) (by kernel_rfl) ?_
  refine WDp 27 rfl (by first | exact stepV_yl _ rfl | exact stepI_yl _ inf rfl) (by kernel_rfl) ?_
  refine WDp 28 rfl (by first | exact stepV_yl _ rfl | exact stepI_yl _ inf rfl) (by kernel_rfl) ?_
  refine WDp 29 rfl (by first | exact stepV_yl _ rfl | exact stepI_yl _ inf rfl) (by kernel_rfl) ?_
  refine WDp 30 rfl (yl_ix inf rfl rfl rfl rfl rfl (fun _ => ⟨by omega, by omega⟩)) (by kernel_rfl) ?_
  refine WDp 31 rfl (by first | exact stepV_yl _ rfl | exact stepI_yl _ inf rfl) (by kernel_rfl) ?_
  refine WDq 32 rfl (yl_ld inf rfl rfl rfl rfl (fun W' hS => ((hatd i hi).ext (hEz.then_ hS)).at_ (j := 0) rfl)) hE9' (by kernel_rfl) ?_
  refine WDp 33 rfl (by first | exact stepV_yl _ rfl | exact stepI_yl _ inf rfl) (by kernel_rfl) ?_
  refine WDp 34 rfl (by first | exact stepV_yl _ rfl | exact stepI_yl _ inf rfl) (by kernel_rfl) ?_
  refine WDp 35 rfl (yl_ix inf rfl rfl rfl rfl rfl (fun _ => ⟨by omega, by omega⟩)) (by kernel_rfl) ?_
  refine WDp 36 rfl (by first | exact stepV_yl _ rfl | exact stepI_yl _ inf rfl) (by kernel_rfl) ?_
  refine WDq 37 rfl (yl_ld inf rfl rfl rfl rfl (fun W' hS => ((hatd j hj).ext (hEz.then_ hS)).at_ (j := 0) rfl)) hE9' (by kernel_rfl) ?_
  refine WDp 39 rfl (by first | exact stepV_yl _ rfl | exact stepI_yl _ inf rfl) (by kernel_rfl) ?_
  refine WDp 40 rfl (by first | exact stepV_yl _ rfl | exact stepI_yl _ inf rfl) (by kernel_rfl) ?_
  refine WDp 41 rfl (by first | exact stepV_yl _ rfl | exact stepI_yl _ inf rfl) (by kernel_rfl) ?_
  refine WDp 42 rfl (yl_min rfl rfl rfl rfl rfl rfl rfl hmin) (by kernel_rfl) ?_
  refine WDp 43 rfl (yl_ix inf rfl rfl rfl rfl rfl (fun _ => ⟨by omega, by omega⟩)) (by kernel_rfl) ?_
  refine WDp 44 rfl (by first | exact stepV_yl _ rfl | exact stepI_yl _ inf rfl) (by kernel_rfl) ?_
  refine WDq 45 rfl (yl_ld inf rfl rfl rfl rfl (fun W' hS => ((hatd (min i j) hm).ext (hEz.then_ hS)).at_ (j := 0) rfl)) hE9' (by kernel_rfl) ?_
  refine WDl 38 rfl (by kernel_rfl) (WL_call rfl rfl rfl rfl rfl enters_scommon rfl (scommon_any (some (treeP k)) (tn i) (tn j) _ _ (hP0.ext (hEz.then_ hE9')) (hlt i) (hlt j) hfit hmeet) ?_)
  rintro e w10 ⟨rfl, hE10, _⟩
  refine ⟨_, rfl, WDc (fun h => h.then_ hE10) ?_⟩
  rw [hcm]
  have hE10' := hE9'.then_ hE10
  refine WDp 46 rfl (ycast (stepV_yl _ rfl) (congrArg Value.bool q4)) (by kernel_rfl) ?_
  refine WDp 47 rfl (by first | exact stepV_yl _ rfl | exact stepI_yl _ inf rfl) (by kernel_rfl) ?_
  refine WDp 48 rfl (by first | exact stepV_yl _ rfl | exact stepI_yl _ inf rfl) (by kernel_rfl) ?_
  refine WDp 49 rfl (by first | exact stepV_yl _ rfl | exact stepI_yl _ inf rfl) (by kernel_rfl) ?_
  refine WDp 50 rfl (by first | exact stepV_yl _ rfl | exact stepI_yl _ inf rfl) (by kernel_rfl) ?_
  refine WDp 51 rfl (by first | exact stepV_yl _ rfl | exact stepI_yl _ inf rfl) (by kernel_rfl) ?_
  refine WDp 52 rfl (yl_ix inf rfl rfl rfl rfl rfl (fun _ => ⟨by omega, by omega⟩)) (by kernel_rfl) ?_
  refine WDp 53 rfl (by first | exact stepV_yl _ rfl | exact stepI_yl _ inf rfl) (by kernel_rfl) ?_
  refine WDq 54 rfl (yl_ld inf rfl rfl rfl rfl (fun W' hS => ((hatd i hi).ext (hEz.then_ hS)).at_ (j := 0) rfl)) hE10' (by kernel_rfl) ?_
  refine WDl 55 rfl (by kernel_rfl) (WL_call rfl rfl rfl rfl rfl enters_sclass rfl (sclass_any (some (treeP k)) (tn i) objectS _ _ (hP0.ext (hEz.then_ hE10')) (hlt i) hfit) ?_)
  rintro e w11 ⟨rfl, hE11⟩
  refine ⟨_, rfl, WDc (fun h => h.then_ hE11) ?_⟩
  rw [htp]
  have hE11' := hE10'.then_ hE11
  refine WDp 56 rfl (by first | exact stepV_yl _ rfl | exact stepI_yl _ inf rfl) (by kernel_rfl) ?_
  refine WDp 57 rfl (by first | exact stepV_yl _ rfl | exact stepI_yl _ inf rfl) (by kernel_rfl) ?_
  refine WDl 58 rfl (by kernel_rfl) (WL_call rfl rfl rfl rfl rfl enters_awake7 rfl (awake7_any _) ?_)
  rintro e w12 ⟨rfl, hE12⟩
  refine ⟨_, rfl, WDc (fun h => h.then_ hE12) ?_⟩
  refine WDp 59 rfl (by first | exact stepV_yl _ rfl | exact stepI_yl _ inf rfl) (by kernel_rfl) ?_
  refine WDp 60 rfl (by first | exact stepV_yl _ rfl | exact stepI_yl _ inf rfl) (by kernel_rfl) ?_
  refine WDe (by kernel_rfl) ?_
  repeat (first | refine WL1 rfl ?_ | refine WLe rfl rfl ?_ | refine W_region ?_ | refine WL2 inf rfl ?_ | refine WL_ld inf rfl rfl rfl rfl (Blk.cell (by assumption) rfl) ?_)
  exact W_ret1 rfl rfl rfl ⟨rfl, (hEd.then_ hEz).then_ (hE11'.then_ hE12)⟩
theorem treeW_any (n a b d : Int) (w : World) (_ : (Lit.int .i64 n).wf = true) (_ : (Lit.int .i64 a).wf = true) (_ : (Lit.int .i64 b).wf = true) (_ : (Lit.int .i64 d).wf = true) :
    Calls Tryz.prog 8 #[.int .i64 n, .int .i64 a, .int .i64 b, .int .i64 d] w fun e w' => e = .returned (.bool true) ∧ Ext w w' := tree_any n a b d w
end Go.Proofs.YtljcmmmajjmpoaaGreatDoor
