/- classfile: poolOf, Pool. -/
import Derived.Test.YtljcmmmajjmpoaaGreatDoorPoolb
namespace Go.Proofs.YtljcmmmajjmpoaaGreatDoor
open Go.RowKit Sp

theorem CellsB.at_bel {B : Nat → Prop} {w W : World} {a : Addr} {cs : List Value} {base : Nat} (h : CellsB B w a cs) (hb : Below base w W) (hB : ∀ k, B k → k < base) : CellsAt W a cs := fun j v hv => by
  obtain ⟨h1, h2⟩ := h j v hv
  exact (hb.cell (p := a.add j) (by rw [add_block]; exact hB _ h1)).trans h2
theorem Sl.one {α : Type} {R : Rep α} {z : Nat} {B : Nat → Prop} {w : World} {v : Value} {xs : List α} (h : Sl R z B w v xs) : v.oneCell' = true := by
  obtain ⟨A, c, rfl, _⟩ := h; rfl
theorem Fld.one (f : Fld) : ∀ v ∈ Fld.cs f, v.oneCell' = true := by simp [Fld.cs, Value.oneCell']
theorem Ins.one (f : Ins) : ∀ v ∈ Ins.cs f, v.oneCell' = true := by simp [Ins.cs, Value.oneCell']
theorem Hnd.one (f : Hnd) : ∀ v ∈ Hnd.cs f, v.oneCell' = true := by simp [Hnd.cs, Value.oneCell']
theorem Mth.one (m : Mth) {c h : Value} (hc : c.oneCell' = true) (hh : h.oneCell' = true) : ∀ v ∈ Mth.cs m c h, v.oneCell' = true := by
  intro v hv
  simp only [Mth.cs, List.mem_cons, List.not_mem_nil, or_false] at hv
  rcases hv with rfl | rfl | rfl | rfl | rfl | rfl | rfl | rfl <;> first | rfl | assumption
theorem Cls.one (m : Cls) {c h g : Value} (hc : c.oneCell' = true) (hh : h.oneCell' = true) (hg : g.oneCell' = true) : ∀ v ∈ Cls.cs m c h g, v.oneCell' = true := by
  intro v hv
  simp only [Cls.cs, List.mem_cons, List.not_mem_nil, or_false] at hv
  rcases hv with rfl | rfl | rfl | rfl | rfl | rfl | rfl <;> first | rfl | assumption
/-- A block of texts. -/
theorem strSl {w : World} {h : Nat} {xs : List L} {n : Nat} (hb : Blk w h 9 (xs.map fun s => .string (mkS s))) (hl : ∀ s ∈ xs, Len s) (hn : xs.length = n) (hm : n ≤ 9223372036854775807) : Sl StrR 1 (fun k => k = h) w (.slice (some ⟨h, 0, none⟩) n n) xs := by
  subst hn
  refine ⟨_, _, rfl, Nat.le_refl _, by simp only [maxLen]; omega, fun i x hx => ⟨[.string (mkS x)], rfl, ⟨rfl, hl x (List.mem_of_getElem? hx)⟩, fun j v hj => ⟨by rw [add_block], ?_⟩⟩⟩
  have hj0 : j = 0 := by
    have := (List.getElem?_eq_some_iff.1 hj).1
    simp at this; exact this
  subst hj0
  have := hb.cells i v (by rw [List.getElem?_map, hx]; simpa using hj)
  simpa [add_add] using this

def PoolAt (base q : Nat) (w : World) (ls : List L) : Prop := ∃ r lv es, Blk w q 132 [lv, .map (some r)] ∧ OwnR base 9 1 w lv (ls.map strC) ∧ MapAt w r es ∧ Keys es ls ∧ base ≤ q ∧ base ≤ r
theorem PoolAt.ext {base q : Nat} {w w1 : World} {ls : List L} (h : PoolAt base q w ls) (he : Ext w w1) : PoolAt base q w1 ls := by
  obtain ⟨r, lv, es, h1, h2, h3, h4, h5, h6⟩ := h
  exact ⟨r, lv, es, h1.ext he, h2.ext he, h3.ext he, h4, h5, h6⟩
theorem add_at {base q : Nat} {B : Nat → Prop} {W W1 : World} {v : Value} {ls xs : List L} (hp : PoolAt base q W ls) (he : Ext W W1) (hsl : Sl StrR 1 B W1 v xs) (hB : ∀ k, B k → k < base ∨ W.heap.size ≤ k ∧ k < W1.heap.size) (hb : base ≤ W.heap.size) (hlen : ls.length + xs.length ≤ 274877906944) :
    Calls Tryz.prog 161 #[.pointer (some ⟨q, 0, none⟩), v] W1 fun e w' => e = .returned (.tuple #[]) ∧ Below base W1 w' ∧ PoolAt base q w' (addAll ls xs) ∧ (∀ g t cs, Blk W1 g t cs → decide (t = 132) = false → decide (t = 9) = false → Blk w' g t cs) := by
  obtain ⟨r, lv, es, h1, h2, h3, h4, h5, h6⟩ := hp
  have l1 := h1.lt
  have l3 := h3.lt
  have l2 := h2.own
  have s1 := he.size
  refine (add_any (h1.ext he) (h2.ext he) (h3.ext he) h4 h5 h6 hsl (fun k hk => ?_) hlen).mono ?_
  · rcases hB k hk with h | ⟨h, h'⟩
    · refine ⟨by omega, by omega, by omega, fun e => ?_⟩
      have := l2 k e.symm; omega
    · refine ⟨by omega, by omega, by omega, fun e => ?_⟩
      have := l2 k e.symm; omega
  · rintro e w' ⟨rfl, hbel, lv', es', k1, k2, k3, k4, k5, k6⟩
    refine ⟨rfl, hbel, ⟨r, lv', es', k1, k2, k3, k4, h5, h6⟩, fun g t cs hg t1 t2 => ?_⟩
    refine (k6 g hg.lt ?_ ?_ ((h2.ext he).ne hg t2)).trans hg
    · rintro rfl
      have := (h1.ext he)
      unfold Blk at this hg
      rw [this] at hg
      cases hg
      simp at t1
    · exact MapAt.ne (h3.ext he) hg

theorem bel_keeps {B : Nat → Prop} {base : Nat} {w W : World} (h : Below base w W) (hB : ∀ k, B k → k < base) : Keeps B w W := fun a v hb hc => (h.cell (p := a) (hB _ hb)).trans hc
def addF (l : List L) (f : Fld) : List L := addAll l [f.name, f.desc]
def addI (l : List L) (x : Ins) : List L := addAll l (textsI x)
def addH (l : List L) (h : Hnd) : List L := addAll l [h.cls]
def addM (l : List L) (m : Mth) : List L := m.hand.foldl addH (m.code.foldl addI (addAll l [m.name, m.desc]))
/-- A class's texts. -/
def poolD (c : Cls) : List L := c.methods.foldl addM (c.fields.foldl addF (addAll (addAll [] [c.name, c.super]) c.impl))
theorem fold_take {α β : Type} (f : β → α → β) (b : β) {xs : List α} {k : Nat} {x : α} (hx : xs[k]? = some x) : (xs.take (k + 1)).foldl f b = f ((xs.take k).foldl f b) x := by
  rw [List.take_add_one, hx]; simp
def Small (c : Cls) : Prop := c.impl.length ≤ 30 ∧ c.fields.length ≤ 20 ∧ c.methods.length ≤ 20 ∧ ∀ m ∈ c.methods, m.code.length ≤ 200 ∧ m.hand.length ≤ 20
theorem bs2_ (a b : L) (w : World) : (Instr.buildSlice 40 2 [(0, Value.string (mkS a)), (1, Value.string (mkS b))].toArray).run Tryz.prog w = .ok (.slice (some ⟨w.heap.size, 0, none⟩) 2 2) (w.alloc (.cells ([a, b].map fun s => Value.string (mkS s)).toArray 9)) := bs40_2 _ _ w
theorem enters_poolOf : Enters Tryz.prog 123 := enters_of Tryz.func123 (by kernel_rfl) rfl
theorem bld172 (r : Nat) (w : World) : (Instr.build 132 [(1, Value.map (some r))].toArray).run Tryz.prog w = .ok (.agg [.slice none 0 0, .map (some r)].toArray) w := by kernel_rfl
set_option maxRecDepth 100000 in
set_option maxHeartbeats 4000000 in
theorem poolOf_any {B : Nat → Prop} (c : Cls) (w : World) {iv fv mv : Value} (hB : ∀ k, B k → k < w.heap.size) (hc : ClsR B w c (Cls.cs c iv fv mv)) (hs : Small c) :
    Calls Tryz.prog 123 #[.agg (Cls.cs c iv fv mv).toArray] w fun e w' => ∃ q, e = .returned (.pointer (some ⟨q, 0, none⟩)) ∧ Ext w w' ∧ PoolAt w.heap.size q w' (poolD c) := by
  obtain ⟨i', f', m', heq, hl1, hl2, hsi, hsf, hsm⟩ := hc
  obtain ⟨rfl, rfl, rfl⟩ : iv = i' ∧ fv = f' ∧ mv = m' := by simp only [Cls.cs, List.cons.injEq, and_true, true_and] at heq; exact heq
  obtain ⟨s1, s2, s3, s4⟩ := hs
  have hsi0 := hsi
  have onei := hsi.one
  have onef := hsf.one
  have onem := hsm.one
  obtain ⟨Ai, ci, rfl, hi1, hi2, hri⟩ := hsi
  obtain ⟨Af, cf, rfl, hf1, hf2, hrf⟩ := hsf
  obtain ⟨Am, cm, rfl, hm1, hm2, hrm⟩ := hsm
  refine calls_W (args := [.agg (Cls.cs c (.slice Ai c.impl.length ci) (.slice Af c.fields.length cf) (.slice Am c.methods.length cm)).toArray]) Tryz.func123 rfl rfl rfl ?_
  refine Wg rfl (W_region ?_)
  refine WL_box (cs := Cls.cs c (.slice Ai c.impl.length ci) (.slice Af c.fields.length cf) (.slice Am c.methods.length cm)) rfl rfl rfl rfl rfl ?_
  rintro g w1 hg hB1 hE1
  repeat (first | refine WL1 rfl ?_ | refine WLe rfl rfl ?_ | refine W_region ?_ | refine WL2 inf rfl ?_ | refine WL_ld inf rfl rfl rfl rfl (Blk.cell (by assumption) rfl) ?_)
  refine WL_mk rfl rfl rfl ?_
  rintro r w2 hr hm2 hE2
  refine WL_bld rfl rfl rfl rfl (bld172 r) ?_
  refine WL_box (cs := [.slice none 0 0, .map (some r)]) rfl rfl rfl rfl rfl ?_
  rintro q w3 hq hq3 hE3
  have hbel := ((hE1.then_ hE2).then_ hE3)
  have hP3 : PoolAt w.heap.size q w3 [] := ⟨r, _, [], hq3, OwnR.nil _ _ _ _, hm2.ext hE3, fun s => rfl, by have := hE1.size; have := hE2.size; omega, by have := hE1.size; omega⟩
  replace hB1 := (hB1.ext hE2).ext hE3
  clear hq3 hm2 hE1 hE2 hE3
  repeat (first | refine WL1 rfl ?_ | refine WLe rfl rfl ?_ | refine W_region ?_ | refine WL2 inf rfl ?_ | refine WL_ld inf rfl rfl rfl rfl (Blk.cell (by assumption) rfl) ?_)
  refine WL_bsl (cs := [c.name, c.super].map fun s => .string (mkS s)) rfl rfl rfl rfl rfl (bs2_ _ _ _) ?_
  rintro h w4 rfl hh4 hE4
  refine WL_call rfl rfl rfl rfl rfl enters_add rfl (add_at hP3 hE4 (strSl hh4 (by simp [hl1, hl2]) rfl (by omega)) (fun k hk => .inr (by subst hk; exact ⟨Nat.le_refl _, hh4.lt⟩)) hbel.size (by simp)) ?_
  rintro e w5 ⟨rfl, hbel5, hP5, hk5⟩
  refine ⟨_, rfl, ?_⟩
  replace hB1 := hk5 _ _ _ (hB1.ext hE4) rfl rfl
  replace hbel := (hbel.then_ hE4).trans hbel5
  repeat (first | refine WL1 rfl ?_ | refine WLe rfl rfl ?_ | refine W_region ?_ | refine WL2 inf rfl ?_ | refine WL_ld inf rfl rfl rfl rfl (Blk.cell (by assumption) rfl) ?_)
  refine WL_call rfl rfl rfl rfl rfl enters_add rfl (add_at hP5 (Ext.rfl' _) (hsi0.mono StrR.mono (bel_keeps hbel hB) fun _ h => h) (fun k hk => .inl (hB k hk)) hbel.size (by have := addAll_len [c.name, c.super] []; simp at this; omega)) ?_
  rintro e w6 ⟨rfl, hbel6, hP6, hk6⟩
  refine ⟨_, rfl, ?_⟩
  replace hB1 := hk6 _ _ _ hB1 rfl rfl
  replace hbel := hbel.trans hbel6
  have hlen6 := addAll_len c.impl (addAll [] [c.name, c.super])
  have hlen5 := addAll_len [c.name, c.super] []
  simp only [List.length_cons, List.length_nil] at hlen5
  clear hP3 hP5 hk5 hk6 hbel5 hbel6 hh4 hE4
  generalize hls : addAll (addAll [] [c.name, c.super]) c.impl = ls0 at hP6 hlen6
  repeat (first | refine WL1 rfl ?_ | refine WLe rfl rfl ?_ | refine W_region ?_ | refine WL2 inf rfl ?_ | refine WL_ld inf rfl rfl rfl rfl (Blk.cell (by assumption) rfl) ?_)
  refine W_loop (fun k : Nat => [(1, [], .pointer (some ⟨g, 0, none⟩)), (3, [], .pointer (some ⟨q, 0, none⟩)), (27, [], .slice Af c.fields.length cf), (28, [], .int .i64 c.fields.length), (29, [], .int .i64 k)])
    (fun k W => k ≤ c.fields.length ∧ Below w.heap.size w W ∧ Blk W g 44 (Cls.cs c (.slice Ai c.impl.length ci) (.slice Af c.fields.length cf) (.slice Am c.methods.length cm)) ∧ PoolAt w.heap.size q W ((c.fields.take k).foldl addF ls0) ∧ ((c.fields.take k).foldl addF ls0).length ≤ 40 + 2 * k)
    (fun k => c.fields.length - k) 0 (fun _ => rfl) ⟨rfl, rfl, rfl, rfl, rfl, trivial⟩ ⟨Nat.zero_le _, hbel, hB1, hP6, by simp; omega⟩ ?_
  clear hbel hB1 hP6
  rintro k W ⟨hk, hbel, hB1, hP, hlen⟩
  refine Wg rfl (W_region ?_)
  repeat (first | refine WL1 rfl ?_ | refine WLe rfl rfl ?_ | refine W_region ?_ | refine WL2 inf rfl ?_ | refine WL_ld inf rfl rfl rfl rfl (Blk.cell (by assumption) rfl) ?_)
  refine W_cond rfl rfl (fun hb => ?_) (fun hb => ?_)
  · have hlt : k < c.fields.length := by simpa using hb
    have hx : c.fields[k]? = some c.fields[k] := List.getElem?_eq_getElem hlt
    generalize c.fields[k] = x at hx
    have hfold := fold_take addF ls0 hx
    obtain ⟨a, cs, rfl, hz, hR, hcs⟩ := hrf.at_ hx
    obtain ⟨rfl, hx1, hx2⟩ := hR
    refine Wg rfl (W_region ?_)
    refine WL_ix inf rfl rfl rfl rfl rfl (fun _ => ⟨by omega, by omega⟩) ?_
    refine WL_lda inf (cs := Fld.cs x) rfl rfl rfl rfl (hcs.at_bel hbel hB) ?_
    refine WL_alloc inf rfl rfl rfl rfl rfl ?_
    rintro g5 w5 hg5 hB5 hE5
    refine WL_sta inf (cs' := Fld.cs x) rfl rfl rfl rfl (Fld.one x) rfl hB5 rfl ?_
    rintro w6 hB6 u6
    have hE6 : Ext W w6 := u6.ext hE5 (by omega)
    repeat (first | refine WL1 rfl ?_ | refine WLe rfl rfl ?_ | refine W_region ?_ | refine WL2 inf rfl ?_ | refine WL_ld inf rfl rfl rfl rfl (Blk.cell (by assumption) rfl) ?_)
    refine WL_bsl (cs := [x.name, x.desc].map fun s => .string (mkS s)) rfl rfl rfl rfl rfl (bs2_ _ _ _) ?_
    rintro h w7 rfl hh7 hE7
    refine WL_call rfl rfl rfl rfl rfl enters_add rfl (add_at hP (hE6.then_ hE7) (strSl hh7 (by simp [hx1, hx2]) rfl (by omega)) (fun k hk => .inr (by subst hk; exact ⟨hE6.size, hh7.lt⟩)) hbel.size (by simp; omega)) ?_
    rintro e w8 ⟨rfl, hbel8, hP8, hk8⟩
    refine ⟨_, rfl, ?_⟩
    have hl8 := addAll_len [x.name, x.desc] ((c.fields.take k).foldl addF ls0)
    simp only [List.length_cons, List.length_nil] at hl8
    repeat (first | refine WL1 rfl ?_ | refine WLe rfl rfl ?_ | refine W_region ?_ | refine WL2 inf rfl ?_ | refine WL_ld inf rfl rfl rfl rfl (Blk.cell (by assumption) rfl) ?_)
    refine WL_add rfl rfl rfl rfl rfl rfl rfl (fun _ => by omega) ?_
    repeat (first | refine WL1 rfl ?_ | refine WLe rfl rfl ?_ | refine W_region ?_ | refine WL2 inf rfl ?_ | refine WL_ld inf rfl rfl rfl rfl (Blk.cell (by assumption) rfl) ?_)
    refine WLr rfl (k + 1) (by omega) ⟨hlt, (hbel.trans ((hE6.then_ hE7).below hbel.size)).trans hbel8, hk8 _ _ _ ((hB1.ext hE6).ext hE7) rfl rfl, by rw [hfold]; exact hP8, by rw [hfold]; show (addAll _ _).length ≤ _; omega⟩ rfl ⟨rfl, rfl, rfl, rfl, rfl, trivial⟩
  have hk' : k = c.fields.length := by simp at hb; omega
  subst hk'
  rw [List.take_length] at hP hlen
  generalize hls1 : c.fields.foldl addF ls0 = ls1 at hP hlen
  refine Wg rfl (W_region ?_)
  repeat (first | refine WL1 rfl ?_ | refine WLe rfl rfl ?_ | refine W_region ?_ | refine WL2 inf rfl ?_ | refine WL_ld inf rfl rfl rfl rfl (Blk.cell (by assumption) rfl) ?_)
  refine W_loop (fun k : Nat => [(1, [], .pointer (some ⟨g, 0, none⟩)), (3, [], .pointer (some ⟨q, 0, none⟩)), (42, [], .slice Am c.methods.length cm), (43, [], .int .i64 c.methods.length), (44, [], .int .i64 k)])
    (fun k W => k ≤ c.methods.length ∧ Below w.heap.size w W ∧ Blk W g 44 (Cls.cs c (.slice Ai c.impl.length ci) (.slice Af c.fields.length cf) (.slice Am c.methods.length cm)) ∧ PoolAt w.heap.size q W ((c.methods.take k).foldl addM ls1) ∧ ((c.methods.take k).foldl addM ls1).length ≤ 80 + 700 * k)
    (fun k => c.methods.length - k) 0 (fun _ => rfl) ⟨rfl, rfl, rfl, rfl, rfl, trivial⟩ ⟨Nat.zero_le _, hbel, hB1, hP, by simp; omega⟩ ?_
  clear hbel hB1 hP hlen hb hk
  rintro k W ⟨hk, hbel, hB1, hP, hlen⟩
  refine Wg rfl (W_region ?_)
  repeat (first | refine WL1 rfl ?_ | refine WLe rfl rfl ?_ | refine W_region ?_ | refine WL2 inf rfl ?_ | refine WL_ld inf rfl rfl rfl rfl (Blk.cell (by assumption) rfl) ?_)
  refine W_cond rfl rfl (fun hb => ?_) (fun hb => ?_)
  · have hlt : k < c.methods.length := by simpa using hb
    have hx : c.methods[k]? = some c.methods[k] := List.getElem?_eq_getElem hlt
    generalize c.methods[k] = m at hx
    have hfold := fold_take addM ls1 hx
    obtain ⟨sc, sh⟩ := s4 m (List.mem_of_getElem? hx)
    obtain ⟨a, cs, rfl, hz, hR, hcs⟩ := hrm.at_ hx
    obtain ⟨cv, hv, rfl, hx1, hx2, hsc, hsh⟩ := hR
    have onec := hsc.one
    have oneh := hsh.one
    obtain ⟨Ac, cc, rfl, hc1, hc2, hrc⟩ := hsc
    obtain ⟨Ah, ch, rfl, hh1, hh2, hrh⟩ := hsh
    generalize hlm : (c.methods.take k).foldl addM ls1 = lm at hP hlen hfold
    refine Wg rfl (W_region ?_)
    refine WL_ix inf rfl rfl rfl rfl rfl (fun _ => ⟨by omega, by omega⟩) ?_
    refine WL_lda inf (cs := Mth.cs m (.slice Ac m.code.length cc) (.slice Ah m.hand.length ch)) rfl rfl rfl rfl (hcs.at_bel hbel hB) ?_
    refine WL_alloc inf rfl rfl rfl rfl rfl ?_
    rintro g5 w5 hg5 hB5 hE5
    refine WL_sta inf (cs' := Mth.cs m (.slice Ac m.code.length cc) (.slice Ah m.hand.length ch)) rfl rfl rfl rfl (Mth.one m onec oneh) rfl hB5 rfl ?_
    rintro w6 hB6 u6
    have hE6 : Ext W w6 := u6.ext hE5 (by omega)
    repeat (first | refine WL1 rfl ?_ | refine WLe rfl rfl ?_ | refine W_region ?_ | refine WL2 inf rfl ?_ | refine WL_ld inf rfl rfl rfl rfl (Blk.cell (by assumption) rfl) ?_)
    refine WL_bsl (cs := [m.name, m.desc].map fun s => .string (mkS s)) rfl rfl rfl rfl rfl (bs2_ _ _ _) ?_
    rintro h w7 rfl hh7 hE7
    refine WL_call rfl rfl rfl rfl rfl enters_add rfl (add_at hP (hE6.then_ hE7) (strSl hh7 (by simp [hx1, hx2]) rfl (by omega)) (fun k hk => .inr (by subst hk; exact ⟨hE6.size, hh7.lt⟩)) hbel.size (by simp; omega)) ?_
    rintro e w8 ⟨rfl, hbel8, hP8, hk8⟩
    refine ⟨_, rfl, ?_⟩
    have hl8 := addAll_len [m.name, m.desc] lm
    simp only [List.length_cons, List.length_nil] at hl8
    replace hB1 := hk8 _ _ _ ((hB1.ext hE6).ext hE7) rfl rfl
    replace hB6 := hk8 _ _ _ (hB6.ext hE7) rfl rfl
    replace hbel := (hbel.trans ((hE6.then_ hE7).below hbel.size)).trans hbel8
    clear hk8 hbel8 hE7 hE6 u6 hE5 hB5 hP
    repeat (first | refine WL1 rfl ?_ | refine WLe rfl rfl ?_ | refine W_region ?_ | refine WL2 inf rfl ?_ | refine WL_ld inf rfl rfl rfl rfl (Blk.cell (by assumption) rfl) ?_)
    generalize hla : addAll lm [m.name, m.desc] = la at hP8 hl8
    refine W_loop (fun j : Nat => [(1, [], .pointer (some ⟨g, 0, none⟩)), (3, [], .pointer (some ⟨q, 0, none⟩)), (42, [], .slice (some a) c.methods.length cm), (43, [], .int .i64 c.methods.length), (44, [], .int .i64 k), (7, [], .pointer (some ⟨g5, 0, none⟩)), (56, [], .slice Ac m.code.length cc), (57, [], .int .i64 m.code.length), (58, [], .int .i64 j)])
      (fun j W => j ≤ m.code.length ∧ Below w.heap.size w W ∧ Blk W g 44 (Cls.cs c (.slice Ai c.impl.length ci) (.slice Af c.fields.length cf) (.slice (some a) c.methods.length cm)) ∧ Blk W g5 86 (Mth.cs m (.slice Ac m.code.length cc) (.slice Ah m.hand.length ch)) ∧ PoolAt w.heap.size q W ((m.code.take j).foldl addI la) ∧ ((m.code.take j).foldl addI la).length ≤ la.length + 3 * j)
      (fun j => m.code.length - j) 0 (fun _ => rfl) ⟨rfl, rfl, rfl, rfl, rfl, rfl, rfl, rfl, rfl, trivial⟩ ⟨Nat.zero_le _, hbel, hB1, hB6, hP8, by simp⟩ ?_
    clear hbel hB1 hB6 hP8
    rintro j W ⟨hj, hbel, hB1, hB6, hP, hlen2⟩
    refine Wg rfl (W_region ?_)
    repeat (first | refine WL1 rfl ?_ | refine WLe rfl rfl ?_ | refine W_region ?_ | refine WL2 inf rfl ?_ | refine WL_ld inf rfl rfl rfl rfl (Blk.cell (by assumption) rfl) ?_)
    refine W_cond rfl rfl (fun hb => ?_) (fun hb => ?_)
    · have hlt2 : j < m.code.length := by simpa using hb
      have hx2 : m.code[j]? = some m.code[j] := List.getElem?_eq_getElem hlt2
      generalize m.code[j] = x at hx2
      have hfold2 := fold_take addI la hx2
      obtain ⟨a2, cs2, rfl, hz2, hR2, hcs2⟩ := hrc.at_ hx2
      obtain ⟨rfl, hxo⟩ := hR2
      refine Wg rfl (W_region ?_)
      refine WL_ix inf rfl rfl rfl rfl rfl (fun _ => ⟨by omega, by omega⟩) ?_
      refine WL_lda inf (cs := Ins.cs x) rfl rfl rfl rfl (hcs2.at_bel hbel hB) ?_
      refine WL_alloc inf rfl rfl rfl rfl rfl ?_
      rintro g9 w9 hg9 hB9 hE9
      refine WL_sta inf (cs' := Ins.cs x) rfl rfl rfl rfl (Ins.one x) rfl hB9 rfl ?_
      rintro w10 hB10 u10
      have hE10 : Ext W w10 := u10.ext hE9 (by omega)
      repeat (first | refine WL1 rfl ?_ | refine WLe rfl rfl ?_ | refine W_region ?_ | refine WL2 inf rfl ?_ | refine WL_ld inf rfl rfl rfl rfl (Blk.cell (by assumption) rfl) ?_)
      refine WL_lda inf (cs := Ins.cs x) rfl rfl rfl rfl hB10.cells ?_
      refine WL_call rfl rfl rfl rfl rfl enters_texts rfl (texts_any x _ hxo) ?_
      rintro e w11 ⟨tv, rfl, hE11, ht11⟩
      refine ⟨_, rfl, ?_⟩
      have htl := textsI_le x
      refine WL_call rfl rfl rfl rfl rfl enters_add rfl (add_at hP (hE10.then_ hE11) (ht11.sl (B := fun k => w10.heap.size ≤ k ∧ k < w11.heap.size) (strEach _ _ _ (textsI_len x hxo)) ht11.own) (fun k hk => .inr ⟨Nat.le_trans hE10.size hk.1, hk.2⟩) hbel.size (by omega)) ?_
      rintro e w12 ⟨rfl, hbel12, hP12, hk12⟩
      refine ⟨_, rfl, ?_⟩
      have hl12 := addAll_len (textsI x) ((m.code.take j).foldl addI la)
      repeat (first | refine WL1 rfl ?_ | refine WLe rfl rfl ?_ | refine W_region ?_ | refine WL2 inf rfl ?_ | refine WL_ld inf rfl rfl rfl rfl (Blk.cell (by assumption) rfl) ?_)
      refine WL_add rfl rfl rfl rfl rfl rfl rfl (fun _ => by omega) ?_
      repeat (first | refine WL1 rfl ?_ | refine WLe rfl rfl ?_ | refine W_region ?_ | refine WL2 inf rfl ?_ | refine WL_ld inf rfl rfl rfl rfl (Blk.cell (by assumption) rfl) ?_)
      exact WLr rfl (j + 1) (by omega) ⟨hlt2, (hbel.trans ((hE10.then_ hE11).below hbel.size)).trans hbel12, hk12 _ _ _ ((hB1.ext hE10).ext hE11) rfl rfl, hk12 _ _ _ ((hB6.ext hE10).ext hE11) rfl rfl, by rw [hfold2]; exact hP12, by rw [hfold2]; show (addAll _ _).length ≤ _; omega⟩ rfl ⟨rfl, rfl, rfl, rfl, rfl, rfl, rfl, rfl, rfl, trivial⟩
    have hj' : j = m.code.length := by simp at hb; omega
    subst hj'
    rw [List.take_length] at hP hlen2
    generalize hlb : m.code.foldl addI la = lb at hP hlen2
    refine Wg rfl (W_region ?_)
    repeat (first | refine WL1 rfl ?_ | refine WLe rfl rfl ?_ | refine W_region ?_ | refine WL2 inf rfl ?_ | refine WL_ld inf rfl rfl rfl rfl (Blk.cell (by assumption) rfl) ?_)
    refine W_loop (fun j : Nat => [(1, [], .pointer (some ⟨g, 0, none⟩)), (3, [], .pointer (some ⟨q, 0, none⟩)), (42, [], .slice (some a) c.methods.length cm), (43, [], .int .i64 c.methods.length), (44, [], .int .i64 k), (7, [], .pointer (some ⟨g5, 0, none⟩)), (68, [], .slice Ah m.hand.length ch), (69, [], .int .i64 m.hand.length), (70, [], .int .i64 j)])
      (fun j W => j ≤ m.hand.length ∧ Below w.heap.size w W ∧ Blk W g 44 (Cls.cs c (.slice Ai c.impl.length ci) (.slice Af c.fields.length cf) (.slice (some a) c.methods.length cm)) ∧ Blk W g5 86 (Mth.cs m (.slice Ac m.code.length cc) (.slice Ah m.hand.length ch)) ∧ PoolAt w.heap.size q W ((m.hand.take j).foldl addH lb) ∧ ((m.hand.take j).foldl addH lb).length ≤ lb.length + j)
      (fun j => m.hand.length - j) 0 (fun _ => rfl) ⟨rfl, rfl, rfl, rfl, rfl, rfl, rfl, rfl, rfl, trivial⟩ ⟨Nat.zero_le _, hbel, hB1, hB6, hP, by simp⟩ ?_
    clear hbel hB1 hB6 hP hb hj
    rintro j W ⟨hj, hbel, hB1, hB6, hP, hlen3⟩
    refine Wg rfl (W_region ?_)
    repeat (first | refine WL1 rfl ?_ | refine WLe rfl rfl ?_ | refine W_region ?_ | refine WL2 inf rfl ?_ | refine WL_ld inf rfl rfl rfl rfl (Blk.cell (by assumption) rfl) ?_)
    refine W_cond rfl rfl (fun hb => ?_) (fun hb => ?_)
    · have hlt2 : j < m.hand.length := by simpa using hb
      have hx2 : m.hand[j]? = some m.hand[j] := List.getElem?_eq_getElem hlt2
      generalize m.hand[j] = x at hx2
      have hfold2 := fold_take addH lb hx2
      obtain ⟨a2, cs2, rfl, hz2, hR2, hcs2⟩ := hrh.at_ hx2
      obtain ⟨rfl, hxo⟩ := hR2
      refine Wg rfl (W_region ?_)
      refine WL_ix inf rfl rfl rfl rfl rfl (fun _ => ⟨by omega, by omega⟩) ?_
      refine WL_lda inf (cs := Hnd.cs x) rfl rfl rfl rfl (hcs2.at_bel hbel hB) ?_
      refine WL_alloc inf rfl rfl rfl rfl rfl ?_
      rintro g9 w9 hg9 hB9 hE9
      refine WL_sta inf (cs' := Hnd.cs x) rfl rfl rfl rfl (Hnd.one x) rfl hB9 rfl ?_
      rintro w10 hB10 u10
      have hE10 : Ext W w10 := u10.ext hE9 (by omega)
      repeat (first | refine WL1 rfl ?_ | refine WLe rfl rfl ?_ | refine W_region ?_ | refine WL2 inf rfl ?_ | refine WL_ld inf rfl rfl rfl rfl (Blk.cell (by assumption) rfl) ?_)
      refine WL_bsl (cs := [x.cls].map fun s => .string (mkS s)) rfl rfl rfl rfl rfl (bs40_1 _ _) ?_
      rintro h w11 rfl hh11 hE11
      refine WL_call rfl rfl rfl rfl rfl enters_add rfl (add_at hP (hE10.then_ hE11) (strSl hh11 (by simp [hxo]) rfl (by omega)) (fun k hk => .inr (by subst hk; exact ⟨hE10.size, hh11.lt⟩)) hbel.size (by simp; omega)) ?_
      rintro e w12 ⟨rfl, hbel12, hP12, hk12⟩
      refine ⟨_, rfl, ?_⟩
      have hl12 := addAll_len [x.cls] ((m.hand.take j).foldl addH lb)
      simp only [List.length_cons, List.length_nil] at hl12
      repeat (first | refine WL1 rfl ?_ | refine WLe rfl rfl ?_ | refine W_region ?_ | refine WL2 inf rfl ?_ | refine WL_ld inf rfl rfl rfl rfl (Blk.cell (by assumption) rfl) ?_)
      refine WL_add rfl rfl rfl rfl rfl rfl rfl (fun _ => by omega) ?_
      repeat (first | refine WL1 rfl ?_ | refine WLe rfl rfl ?_ | refine W_region ?_ | refine WL2 inf rfl ?_ | refine WL_ld inf rfl rfl rfl rfl (Blk.cell (by assumption) rfl) ?_)
      exact WLr rfl (j + 1) (by omega) ⟨hlt2, (hbel.trans ((hE10.then_ hE11).below hbel.size)).trans hbel12, hk12 _ _ _ ((hB1.ext hE10).ext hE11) rfl rfl, hk12 _ _ _ ((hB6.ext hE10).ext hE11) rfl rfl, by rw [hfold2]; exact hP12, by rw [hfold2]; show (addAll _ _).length ≤ _; omega⟩ rfl ⟨rfl, rfl, rfl, rfl, rfl, rfl, rfl, rfl, rfl, trivial⟩
    have hj' : j = m.hand.length := by simp at hb; omega
    subst hj'
    rw [List.take_length] at hP hlen3
    refine Wg rfl (W_region ?_)
    refine WL_add rfl rfl rfl rfl rfl rfl rfl (fun _ => by omega) ?_
    repeat (first | refine WL1 rfl ?_ | refine WLe rfl rfl ?_ | refine W_region ?_ | refine WL2 inf rfl ?_ | refine WL_ld inf rfl rfl rfl rfl (Blk.cell (by assumption) rfl) ?_)
    refine WLr rfl (k + 1) (by omega) ⟨hlt, hbel, hB1, ?_, ?_⟩ rfl ⟨rfl, rfl, rfl, rfl, rfl, trivial⟩
    · rw [hfold]
      unfold addM
      rw [hla, hlb]
      exact hP
    · rw [hfold]
      unfold addM
      rw [hla, hlb]
      omega
  · have hk' : k = c.methods.length := by simp at hb; omega
    subst hk'
    rw [List.take_length] at hP
    refine Wg rfl (W_region ?_)
    repeat (first | refine WL1 rfl ?_ | refine WLe rfl rfl ?_ | refine W_region ?_ | refine WL2 inf rfl ?_ | refine WL_ld inf rfl rfl rfl rfl (Blk.cell (by assumption) rfl) ?_)
    refine W_ret1 rfl rfl rfl ⟨q, rfl, hbel, ?_⟩
    unfold poolD
    rw [hls, hls1]
    exact hP
theorem enters_Pool : Enters Tryz.prog 85 := enters_of Tryz.func85 (by kernel_rfl) rfl
theorem Pool_any {B : Nat → Prop} (c : Cls) (w : World) {iv fv mv : Value} (hB : ∀ k, B k → k < w.heap.size) (hc : ClsR B w c (Cls.cs c iv fv mv)) (hs : Small c) :
    Calls Tryz.prog 85 #[.agg (Cls.cs c iv fv mv).toArray] w fun e w' => ∃ v, e = .returned v ∧ Ext w w' ∧ OwnR w.heap.size 9 1 w' v ((poolD c).map strC) := by
  refine calls_W (args := [.agg (Cls.cs c iv fv mv).toArray]) Tryz.func85 rfl rfl rfl ?_
  refine Wg rfl (W_region ?_)
  refine WL_box (cs := Cls.cs c iv fv mv) rfl rfl rfl rfl rfl ?_
  rintro g w1 hg hB1 hE1
  repeat (first | refine WL1 rfl ?_ | refine WLe rfl rfl ?_ | refine W_region ?_ | refine WL2 inf rfl ?_ | refine WL_ld inf rfl rfl rfl rfl (Blk.cell (by assumption) rfl) ?_)
  refine WL_lda inf (cs := Cls.cs c iv fv mv) rfl rfl rfl rfl hB1.cells ?_
  refine WL_call rfl rfl rfl rfl rfl enters_poolOf rfl (poolOf_any c w1 (fun k hk => Nat.lt_of_lt_of_le (hB k hk) hE1.size) (ClsR.mono _ _ _ _ _ _ hc hE1.keeps fun _ h => h) hs) ?_
  rintro e w2 ⟨q, rfl, hE2, r, lv, es, hq, hown, -⟩
  refine ⟨_, rfl, ?_⟩
  repeat (first | refine WL1 rfl ?_ | refine WLe rfl rfl ?_ | refine W_region ?_ | refine WL2 inf rfl ?_ | refine WL_ld inf rfl rfl rfl rfl (Blk.cell (by assumption) rfl) ?_)
  exact W_ret1 rfl rfl rfl ⟨lv, rfl, hE1.then_ hE2, hown.weak hE1.size⟩
end Go.Proofs.YtljcmmmajjmpoaaGreatDoor
