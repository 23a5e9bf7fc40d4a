/- link.Builtin: the given classes. -/
import Derived.Test.YtljcmmmajjmpoaaGreatDoorOwn
namespace Go.Proofs.YtljcmmmajjmpoaaGreatDoor
open Go.RowKit Sp

/-- Blocks of the call's own that are not the row itself. -/
def Bx (base : Nat) (w : World) (v : Value) : Nat → Prop := fun b => base ≤ b ∧ b < w.heap.size ∧ some b ≠ v.ownBlock
/-- A row of the call's own, its elements' memory beside it. -/
def OwnT {α : Type} (R : Rep α) (e z base : Nat) (w : World) (v : Value) (xs : List α) : Prop := ∃ css, OwnR base e z w v css ∧ Each (R (Bx base w v) w) xs css
section
variable {α : Type} {R : Rep α} {e z base : Nat} {w w1 w2 : World} {v v' : Value} {xs ys : List α}
theorem OwnT.ext (hR : Mono R) (h : OwnT R e z base w v xs) (he : Ext w w1) : OwnT R e z base w1 v xs := by
  obtain ⟨css, h1, h2⟩ := h
  exact ⟨css, h1.ext he, h2.imp fun x cs h => hR _ _ _ _ _ _ h he.keeps fun b ⟨b1, b2, b3⟩ => ⟨b1, Nat.lt_of_lt_of_le b2 he.size, b3⟩⟩
theorem OwnT.nil : OwnT R e z base w (.slice none 0 0) [] := ⟨[], OwnR.nil _ _ _ _, trivial⟩
theorem Bx.grown {b : Nat} (h : Bx base w1 v b) (hg : w1.grownBy w2 v.ownBlock) (hv : v'.ownBlock = v.ownBlock ∨ v'.ownBlock = some w1.heap.size) : Bx base w2 v' b := by
  obtain ⟨b1, b2, b3⟩ := h
  refine ⟨b1, Nat.lt_of_lt_of_le b2 hg.size, ?_⟩
  rcases hv with hv | hv
  · rw [hv]; exact b3
  · rw [hv]; intro e; cases e; omega
/-- What append leaves. -/
theorem OwnT.app (hR : Mono R) {css ncs : List (List Value)} (h2 : Each (R (Bx base w v) w) xs css) (he : Ext w w1) {B1 : Nat → Prop} (hn : Each (R B1 w1) ys ncs) (hB : ∀ b, B1 b → Bx base w1 v b)
    (ho : OwnR base e z w2 v' (css ++ ncs)) (hg : w1.grownBy w2 v.ownBlock) (hv : v'.ownBlock = v.ownBlock ∨ v'.ownBlock = some w1.heap.size) : OwnT R e z base w2 v' (xs ++ ys) := by
  refine ⟨_, ho, Each.app (h2.imp fun x cs h => ?_) (hn.imp fun x cs h => ?_)⟩
  · have h1 : R (Bx base w1 v) w1 x cs := hR _ _ _ _ _ _ h he.keeps fun b ⟨b1, b2, b3⟩ => ⟨b1, Nat.lt_of_lt_of_le b2 he.size, b3⟩
    exact hR _ _ _ _ _ _ h1 (grown_keeps hg fun k hk => hk.2.2) fun b hb => hb.grown hg hv
  · exact hR _ _ _ _ _ _ h (grown_keeps hg fun k hk => (hB k hk).2.2) fun b hb => (hB b hb).grown hg hv
theorem OwnT.upd (hR : Mono R) (h : OwnT R e z base w v xs) {g : Nat} (hu : Upd g w w1) (hg : g < base) : OwnT R e z base w1 v xs := by
  obtain ⟨css, h1, h2⟩ := h
  exact ⟨css, h1.upd hu (fun e => by have := (h1.own g e).1; omega), h2.imp fun x cs h => hR _ _ _ _ _ _ h (hu.keeps fun b hb e => by have := hb.1; omega) fun b ⟨b1, b2, b3⟩ => ⟨b1, by rw [hu.size]; exact b2, b3⟩⟩
theorem OwnT.sl (h : OwnT R e z base w v xs) (hR : Mono R) : Sl R z (fun b => base ≤ b ∧ b < w.heap.size) w v xs := by
  obtain ⟨css, h1, h2⟩ := h
  refine h1.sl (h2.imp fun x cs h => hR _ _ _ _ _ _ h (Keeps.rfl' _ _) fun b ⟨b1, b2, _⟩ => ⟨b1, b2⟩) h1.own
theorem OwnT.len (h : OwnT R e z base w v xs) : ∃ A c, v = .slice A xs.length c := by
  obtain ⟨css, h1, h2⟩ := h
  rw [h2.len]
  exact h1.val
theorem OwnR.of_blk {g n : Nat} {css : List (List Value)} (hb : Blk w g e css.flatten) (hz : ∀ cs ∈ css, cs.length = z) (hn : css.length = n) (hg : base ≤ g) (hm : n ≤ 9223372036854775807) : OwnR base e z w (.slice (some ⟨g, 0, none⟩) n n) css := by
  subst hn
  have hl : css.flatten.length = css.length * z := by
    have : ∀ l : List (List Value), (∀ cs ∈ l, cs.length = z) → l.flatten.length = l.length * z := by
      intro l
      induction l with
      | nil => intro _; simp
      | cons c r ih => intro hh; rw [List.flatten_cons, List.length_append, hh c (by simp), ih (fun c' hc' => hh c' (by simp [hc'])), List.length_cons, Nat.add_mul]; omega
    exact this css hz
  refine ⟨⟨hl, .inr ⟨g, css.length, _, rfl, hg, hb, Nat.le_refl _, by simp only [maxLen]; omega, by simpa using hl, ?_⟩⟩, hz⟩
  show List.take _ css.flatten = _
  rw [← hl]; exact List.take_length
end
/-- The end of a body, results in hand. -/
theorem WLendR {P : Program} {n : Nat} {fr : Fr} {w : World} {k : Kt} {ops : Array Oper} {fn : Func} {R : Ending → World → Prop} {rs : List ResultVar} (vs : List Value) (hb : nilK k = some (bodyPost P fn R)) (hr : fn.results.toList = rs) (hv : ResOk P w fr rs vs) (h : R (.returned (endV vs)) w) : WL P n ops [] fr w k := by
  subst hr
  exact WL_nil (nilK_ok hb fun _ ha => bodyPost_end (results_run ha hv) ha.2.1 h)
theorem Cls.one' (m : Cls) {A : Option Addr} {n c : Nat} {v : Value} (hv : v = .slice A n c) : ∀ cs ∈ [Cls.cs m (.slice none 0 0) (.slice none 0 0) v], ∀ u ∈ cs, u.oneCell' = true := by
  intro cs hcs
  rw [List.mem_singleton] at hcs
  subst hcs
  exact Cls.one m rfl rfl (by rw [hv]; rfl)
def objectS : L := [79, 98, 106, 101, 99, 116]
def throwS : L := [84, 104, 114, 111, 119, 97, 98, 108, 101]
def taskS : L := [84, 97, 115, 107]
def sysS : L := [83, 121, 115]
def runS : L := [114, 117, 110]
def voidS : L := [40, 41, 86]
def exS : List L := [[78, 117, 108, 108, 69, 120], [66, 111, 117, 110, 100, 115, 69, 120], [83, 116, 111, 114, 101, 69, 120], [67, 97, 115, 116, 69, 120], [65, 114, 105, 116, 104, 69, 120], [77, 101, 109, 69, 120], [68, 101, 112, 116, 104, 69, 120], [73, 110, 105, 116, 69, 120]]
def bareC (n s : L) : Cls := ⟨n, s, false, false, [], [], []⟩
def initC (n s : L) : Cls := ⟨n, s, false, false, [], [], [codeM init_ voidS false]⟩
def headL : List (L × L) := (objectS, []) :: (throwS, objectS) :: exS.map fun s => (s, throwS)
def runM : Mth := ⟨runS, voidS, false, true, 0, 0, [], []⟩
def taskC : Cls := ⟨taskS, objectS, true, true, [], [], [runM]⟩
def pickM : Mth := codeM [112, 105, 99, 107] [40, 41, 73] true
def echoM : Mth := codeM [101, 99, 104, 111] [40, 76, 79, 98, 106, 101, 99, 116, 59, 41, 76, 79, 98, 106, 101, 99, 116, 59] true
def freshM : Mth := codeM [102, 114, 101, 115, 104] [40, 41, 76, 79, 98, 106, 101, 99, 116, 59] true
def callM : Mth := codeM [99, 97, 108, 108] [40, 76, 84, 97, 115, 107, 59, 41, 86] true
def sysC : Cls := ⟨sysS, objectS, false, true, [], [], [pickM, echoM, freshM, callM]⟩
/-- link.Builtin. -/
def builtinD : List Cls := headL.map (fun p => initC p.1 p.2) ++ [taskC] ++ [sysC]
def bareV (n s : L) : List Value := Cls.cs (bareC n s) (.slice none 0 0) (.slice none 0 0) (.slice none 0 0)
theorem bldC1 (n : ByteArray) (w : World) : (Instr.build 44 [(0, Value.string n)].toArray).run Tryz.prog w = .ok (.agg [.string n, .string ⟨#[]⟩, .bool false, .bool false, .slice none 0 0, .slice none 0 0, .slice none 0 0].toArray) w := by kernel_rfl
theorem bldC2 (n s : ByteArray) (w : World) : (Instr.build 44 [(0, Value.string n), (1, .string s)].toArray).run Tryz.prog w = .ok (.agg [.string n, .string s, .bool false, .bool false, .slice none 0 0, .slice none 0 0, .slice none 0 0].toArray) w := by kernel_rfl
theorem bldC3 (n s : ByteArray) (w : World) : (Instr.build 44 [(0, Value.string n), (1, .string s), (3, .bool true)].toArray).run Tryz.prog w = .ok (.agg [.string n, .string s, .bool false, .bool true, .slice none 0 0, .slice none 0 0, .slice none 0 0].toArray) w := by kernel_rfl
theorem bldC4 (n s : ByteArray) (A : Option Addr) (m c : Nat) (w : World) : (Instr.build 44 [(0, Value.string n), (1, .string s), (2, .bool true), (3, .bool true), (6, .slice A m c)].toArray).run Tryz.prog w = .ok (.agg [.string n, .string s, .bool true, .bool true, .slice none 0 0, .slice none 0 0, .slice A m c].toArray) w := by kernel_rfl
theorem bldM (n d : ByteArray) (w : World) : (Instr.build 86 [(0, Value.string n), (1, .string d), (3, .bool true)].toArray).run Tryz.prog w = .ok (.agg [.string n, .string d, .bool false, .bool true, .int .i64 0, .int .i64 0, .slice none 0 0, .slice none 0 0].toArray) w := by kernel_rfl
theorem bs8_ (w : World) : (Instr.buildSlice 40 8 [(0, Value.string ⟨#[78, 117, 108, 108, 69, 120]⟩), (1, .string ⟨#[66, 111, 117, 110, 100, 115, 69, 120]⟩), (2, .string ⟨#[83, 116, 111, 114, 101, 69, 120]⟩), (3, .string ⟨#[67, 97, 115, 116, 69, 120]⟩), (4, .string ⟨#[65, 114, 105, 116, 104, 69, 120]⟩), (5, .string ⟨#[77, 101, 109, 69, 120]⟩), (6, .string ⟨#[68, 101, 112, 116, 104, 69, 120]⟩), (7, .string ⟨#[73, 110, 105, 116, 69, 120]⟩)].toArray).run Tryz.prog w = .ok (.slice (some ⟨w.heap.size, 0, none⟩) 8 8) (w.alloc (.cells (exS.map fun s => Value.string (mkS s)).toArray 9)) := by kernel_rfl
theorem exS_len : ∀ s ∈ exS, Len s := by decide
theorem bare_each (B : Nat → Prop) (w : World) : ∀ l : List (L × L), (∀ p ∈ l, Len p.1 ∧ Len p.2) → Each (ClsR B w) (l.map fun p => bareC p.1 p.2) (l.map fun p => bareV p.1 p.2)
  | [], _ => trivial
  | p :: r, h => ⟨⟨_, _, _, rfl, (h p (by simp)).1, (h p (by simp)).2, Sl.nil _ _ _ _, Sl.nil _ _ _ _, Sl.nil _ _ _ _⟩, bare_each B w r fun q hq => h q (by simp [hq])⟩
theorem headL_len : ∀ p ∈ headL, Len p.1 ∧ Len p.2 := by decide
end Go.Proofs.YtljcmmmajjmpoaaGreatDoor
