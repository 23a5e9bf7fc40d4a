/- Data in memory, and the walk's rules for slices made and appended to, for maps, for results in cells. -/
import Derived.Test.YtljcmmmajjmpoaaGreatDoorInfo
import Derived.Laws.AppendOwn
import Derived.Maps.AppendAt
namespace Go.Proofs.YtljcmmmajjmpoaaGreatDoor
namespace Sp
structure Ins where
  op : Int
  a : Int
  b : Int
  cls : L
  name : L
  desc : L
structure Hnd where
  from_ : Int
  to_ : Int
  at_ : Int
  cls : L
structure Fld where
  name : L
  desc : L
  stat : Bool
structure Mth where
  name : L
  desc : L
  stat : Bool
  abst : Bool
  stack : Int
  locals : Int
  code : List Ins
  hand : List Hnd
structure Cls where
  name : L
  super : L
  face : Bool
  abst : Bool
  impl : List L
  fields : List Fld
  methods : List Mth
end Sp
open Go.RowKit Sp


/-- The cells from an address on, in a block of B. -/
def CellsB (B : Nat → Prop) (w : World) (a : Addr) (cs : List Value) : Prop := ∀ j v, cs[j]? = some v → B a.block ∧ w.cell? (a.add j) = some v
/-- What lies in the blocks of B lies there still. -/
def Keeps (B : Nat → Prop) (w w1 : World) : Prop := ∀ a v, B a.block → w.cell? a = some v → w1.cell? a = some v
abbrev Any_ : Nat → Prop := fun _ => True
section
variable {B B1 : Nat → Prop} {w w1 w2 : World} {a : Addr} {cs : List Value} {g : Nat}
theorem CellsB.cells (h : CellsB B w a cs) : CellsAt w a cs := fun j v hv => (h j v hv).2
theorem CellsAt.any (h : CellsAt w a cs) : CellsB Any_ w a cs := fun j v hv => ⟨trivial, h j v hv⟩
theorem CellsB.mono (h : CellsB B w a cs) (hk : Keeps B w w1) (hB : ∀ k, B k → B1 k) : CellsB B1 w1 a cs := fun j v hv => ⟨hB _ (h j v hv).1, hk _ _ (by rw [add_block]; exact (h j v hv).1) (h j v hv).2⟩
theorem Ext.keeps (h : Ext w w1) : Keeps B w w1 := fun _ _ _ hc => h.cell_ hc
theorem Upd.keeps (h : Upd g w w1) (hB : ∀ k, B k → k ≠ g) : Keeps B w w1 := fun _ _ hb hc => (h.cell (hB _ hb)).trans hc
theorem Keeps.then_ (h : Keeps B w w1) (k : Keeps B w1 w2) : Keeps B w w2 := fun a v hb hc => k a v hb (h a v hb hc)
theorem Keeps.rfl' (B : Nat → Prop) (w : World) : Keeps B w w := fun _ _ _ h => h
theorem grown_keeps {row : Option Nat} (h : w.grownBy w1 row) (hB : ∀ k, B k → some k ≠ row) : Keeps B w w1 := fun a v hb hc => (World.cell?_of_block (h.block a.block (World.block_lt_of_cell? w a hc) (hB _ hb))).trans hc
theorem grown_ext {w0 : World} {row : Option Nat} (h : w.grownBy w1 row) (he : Ext w0 w) (hr : ∀ k, row = some k → w0.heap.size ≤ k) : Ext w0 w1 :=
  he.trans ⟨h.os, h.tape, h.output, h.size, fun k hk => h.block k (Nat.lt_of_lt_of_le hk he.size) fun e => by have := hr k e.symm; omega⟩
end

/-- How a thing lies in cells. -/
abbrev Rep (α : Type) := (Nat → Prop) → World → α → List Value → Prop
def Mono {α : Type} (R : Rep α) : Prop := ∀ B B1 w w1 x cs, R B w x cs → Keeps B w w1 → (∀ k, B k → B1 k) → R B1 w1 x cs
def Row {α : Type} (R : Rep α) (z : Nat) (B : Nat → Prop) (w : World) (A : Option Addr) (xs : List α) : Prop := match A with
  | none => xs = []
  | some a => ∀ i x, xs[i]? = some x → ∃ cs, cs.length = z ∧ R B w x cs ∧ CellsB B w (a.add (i * z)) cs
def Sl {α : Type} (R : Rep α) (z : Nat) (B : Nat → Prop) (w : World) (v : Value) (xs : List α) : Prop := ∃ A c, v = .slice A xs.length c ∧ xs.length ≤ c ∧ c ≤ maxLen ∧ Row R z B w A xs
theorem Row.mono {α : Type} {R : Rep α} (hR : Mono R) {z : Nat} {B B1 : Nat → Prop} {w w1 : World} {A : Option Addr} {xs : List α} (h : Row R z B w A xs) (hk : Keeps B w w1) (hB : ∀ k, B k → B1 k) : Row R z B1 w1 A xs := by
  cases A with
  | none => exact h
  | some a =>
    intro i x hx
    obtain ⟨cs, h1, h2, h3⟩ := h i x hx
    exact ⟨cs, h1, hR _ _ _ _ _ _ h2 hk hB, h3.mono hk hB⟩
theorem Sl.mono {α : Type} {R : Rep α} (hR : Mono R) {z : Nat} {B B1 : Nat → Prop} {w w1 : World} {v : Value} {xs : List α} (h : Sl R z B w v xs) (hk : Keeps B w w1) (hB : ∀ k, B k → B1 k) : Sl R z B1 w1 v xs := by
  obtain ⟨A, c, h1, h2, h3, h4⟩ := h
  exact ⟨A, c, h1, h2, h3, h4.mono hR hk hB⟩
theorem Sl.ext {α : Type} {R : Rep α} (hR : Mono R) {z : Nat} {B : Nat → Prop} {w w1 : World} {v : Value} {xs : List α} (h : Sl R z B w v xs) (hk : Ext w w1) : Sl R z B w1 v xs := h.mono hR hk.keeps fun _ h => h
theorem Sl.len {α : Type} {R : Rep α} {z : Nat} {B : Nat → Prop} {w : World} {v : Value} {xs : List α} (h : Sl R z B w v xs) : xs.length ≤ 9223372036854775807 := by
  obtain ⟨A, c, h1, h2, h3, h4⟩ := h
  simp only [maxLen] at h3
  omega
theorem Row.at_ {α : Type} {R : Rep α} {z : Nat} {B : Nat → Prop} {w : World} {A : Option Addr} {xs : List α} (h : Row R z B w A xs) {i : Nat} {x : α} (hx : xs[i]? = some x) : ∃ a cs, A = some a ∧ cs.length = z ∧ R B w x cs ∧ CellsB B w (a.add (i * z)) cs := by
  cases A with
  | none => rw [show xs = [] from h] at hx; simp at hx
  | some a => obtain ⟨cs, h1, h2, h3⟩ := h i x hx; exact ⟨a, cs, rfl, h1, h2, h3⟩

/-- Texts, instructions, handlers, fields. -/
def StrR : Rep L := fun _ _ l cs => cs = [.string (mkS l)] ∧ Len l
def Ins.cs (x : Ins) : List Value := [.int .i64 x.op, .int .i64 x.a, .int .i64 x.b, .string (mkS x.cls), .string (mkS x.name), .string (mkS x.desc)]
def Ins.ok (x : Ins) : Prop := Len x.cls ∧ Len x.name ∧ Len x.desc
def InsR : Rep Ins := fun _ _ x cs => cs = Ins.cs x ∧ Ins.ok x
def Hnd.cs (x : Hnd) : List Value := [.int .i64 x.from_, .int .i64 x.to_, .int .i64 x.at_, .string (mkS x.cls)]
def HndR : Rep Hnd := fun _ _ x cs => cs = Hnd.cs x ∧ Len x.cls
def Fld.cs (x : Fld) : List Value := [.string (mkS x.name), .string (mkS x.desc), .bool x.stat]
def FldR : Rep Fld := fun _ _ x cs => cs = Fld.cs x ∧ Len x.name ∧ Len x.desc
theorem StrR.mono : Mono StrR := fun _ _ _ _ _ _ h _ _ => h
theorem InsR.mono : Mono InsR := fun _ _ _ _ _ _ h _ _ => h
theorem HndR.mono : Mono HndR := fun _ _ _ _ _ _ h _ _ => h
theorem FldR.mono : Mono FldR := fun _ _ _ _ _ _ h _ _ => h
def Mth.cs (m : Mth) (c h : Value) : List Value := [.string (mkS m.name), .string (mkS m.desc), .bool m.stat, .bool m.abst, .int .i64 m.stack, .int .i64 m.locals, c, h]
def MthR : Rep Mth := fun B w m cs => ∃ c h, cs = Mth.cs m c h ∧ Len m.name ∧ Len m.desc ∧ Sl InsR 6 B w c m.code ∧ Sl HndR 4 B w h m.hand
theorem MthR.mono : Mono MthR := fun _ _ _ _ _ _ ⟨c, h, h1, h2, h3, h4, h5⟩ hk hB => ⟨c, h, h1, h2, h3, h4.mono InsR.mono hk hB, h5.mono HndR.mono hk hB⟩
def Cls.cs (x : Cls) (i f m : Value) : List Value := [.string (mkS x.name), .string (mkS x.super), .bool x.face, .bool x.abst, i, f, m]
def ClsR : Rep Cls := fun B w x cs => ∃ i f m, cs = Cls.cs x i f m ∧ Len x.name ∧ Len x.super ∧ Sl StrR 1 B w i x.impl ∧ Sl FldR 3 B w f x.fields ∧ Sl MthR 8 B w m x.methods
theorem ClsR.mono : Mono ClsR := fun _ _ _ _ _ _ ⟨i, f, m, h1, h2, h3, h4, h5, h6⟩ hk hB => ⟨i, f, m, h1, h2, h3, h4.mono StrR.mono hk hB, h5.mono FldR.mono hk hB, h6.mono MthR.mono hk hB⟩
theorem Sl.nil {α : Type} (R : Rep α) (z : Nat) (B : Nat → Prop) (w : World) : Sl R z B w (.slice none 0 0) [] := ⟨none, 0, rfl, Nat.le_refl _, Nat.zero_le _, rfl⟩

/-- Two lists, pair by pair. -/
def Each {α β : Type} (p : α → β → Prop) : List α → List β → Prop
  | [], [] => True
  | x :: r, y :: s => p x y ∧ Each p r s
  | _, _ => False
theorem Each.len {α β : Type} {p : α → β → Prop} : ∀ {l : List α} {m : List β}, Each p l m → l.length = m.length
  | [], [], _ => rfl
  | _ :: _, _ :: _, h => by simp [Each.len h.2]
theorem Each.app {α β : Type} {p : α → β → Prop} : ∀ {l : List α} {m : List β} {l' : List α} {m' : List β}, Each p l m → Each p l' m' → Each p (l ++ l') (m ++ m')
  | [], [], _, _, _, h => h
  | _ :: _, _ :: _, _, _, h, k => ⟨h.1, Each.app h.2 k⟩
theorem Each.get {α β : Type} {p : α → β → Prop} : ∀ {l : List α} {m : List β} {i : Nat} {x : α}, Each p l m → l[i]? = some x → ∃ y, m[i]? = some y ∧ p x y
  | x :: r, y :: s, 0, _, h, hx => by simp at hx; subst hx; exact ⟨y, by simp, h.1⟩
  | x :: r, y :: s, i + 1, _, h, hx => by simpa using Each.get (i := i) h.2 (by simpa using hx)
  | [], [], i, _, _, hx => by simp at hx
theorem Each.imp {α β : Type} {p q : α → β → Prop} (hpq : ∀ x y, p x y → q x y) : ∀ {l : List α} {m : List β}, Each p l m → Each q l m
  | [], [], _ => trivial
  | _ :: _, _ :: _, h => ⟨hpq _ _ h.1, Each.imp hpq h.2⟩
/-- A row of the call's own: its elements' cells. -/
def OwnR (base : Nat) (e : TypeId) (z : Nat) (w : World) (v : Value) (css : List (List Value)) : Prop := w.ownsRow base e z v css.length css.flatten ∧ ∀ cs ∈ css, cs.length = z
theorem OwnR.nil (base : Nat) (e : TypeId) (z : Nat) (w : World) : OwnR base e z w (.slice none 0 0) [] := ⟨⟨by simp, .inl ⟨rfl, rfl⟩⟩, by simp⟩
theorem flatten_at {z : Nat} : ∀ {css : List (List Value)} {i j : Nat} {cs : List Value} {v : Value}, (∀ cs ∈ css, cs.length = z) → css[i]? = some cs → cs[j]? = some v → css.flatten[i * z + j]? = some v
  | c :: r, 0, j, cs, v, h, hi, hj => by
    simp at hi; subst hi
    have hlt : j < c.length := (List.getElem?_eq_some_iff.1 hj).1
    rw [Nat.zero_mul, Nat.zero_add, List.flatten_cons, List.getElem?_append_left hlt, hj]
  | c :: r, i + 1, j, cs, v, h, hi, hj => by
    have hc : c.length = z := h c (by simp)
    have := flatten_at (css := r) (i := i) (j := j) (fun c' hc' => h c' (by simp [hc'])) (by simpa using hi) hj
    rw [List.flatten_cons, List.getElem?_append_right (by rw [hc, Nat.add_mul]; omega), hc, Nat.add_mul, ← this]
    congr 1; omega
  | [], i, j, cs, v, h, hi, hj => by simp at hi
theorem OwnR.cells {base : Nat} {e : TypeId} {z : Nat} {w : World} {v : Value} {css : List (List Value)} (h : OwnR base e z w v css) {i : Nat} {cs : List Value} (hi : css[i]? = some cs) : ∃ g c, v = .slice (some ⟨g, 0, none⟩) css.length c ∧ base ≤ g ∧ g < w.heap.size ∧ CellsAt w ((⟨g, 0, none⟩ : Addr).add (i * z)) cs := by
  obtain ⟨⟨h1, h2⟩, h3⟩ := h
  have hlt : i < css.length := (List.getElem?_eq_some_iff.1 hi).1
  rcases h2 with ⟨_, h0⟩ | ⟨g, cap, cur, h4, h5, h6, h7, h8, h9, h10⟩
  · omega
  · refine ⟨g, cap, h4, h5, ?_, fun j v hv => ?_⟩
    · rcases Nat.lt_or_ge g w.heap.size with hlt | hge
      · exact hlt
      · rw [Array.getElem?_eq_none hge] at h6; cases h6
    · rw [add_add]
      have hf := flatten_at h3 hi hv
      rw [← h10, List.getElem?_take] at hf
      split at hf
      · have ha : ((⟨g, 0, none⟩ : Addr).add (i * z + j)) = ⟨g, i * z + j, none⟩ := by unfold Addr.add; split <;> simp_all
        rw [ha]
        simp [World.cell?, h6, ← hf]
      · cases hf
theorem OwnR.sl {α : Type} {R : Rep α} {B : Nat → Prop} {base : Nat} {e : TypeId} {z : Nat} {w : World} {v : Value} {css : List (List Value)} {xs : List α} (h : OwnR base e z w v css) (hR : Each (R B w) xs css) (hB : ∀ g, v.ownBlock = some g → B g) : Sl R z B w v xs := by
  have hl := hR.len
  obtain ⟨⟨h1, h2⟩, h3⟩ := id h
  rcases h2 with ⟨rfl, h0⟩ | ⟨g, cap, cur, rfl, h5, h6, h7, h8, h9, h10⟩
  · have : xs = [] := List.eq_nil_of_length_eq_zero (by omega)
    subst this
    exact Sl.nil _ _ _ _
  · refine ⟨some ⟨g, 0, none⟩, cap, by rw [hl], by omega, h8, fun i x hx => ?_⟩
    obtain ⟨cs, hcs, hr⟩ := hR.get hx
    obtain ⟨g', c', e1, _, _, hc⟩ := h.cells hcs
    cases e1
    exact ⟨cs, h3 cs (List.mem_of_getElem? hcs), hr, fun j u hu => ⟨by rw [add_block]; exact hB g rfl, hc j u hu⟩⟩
theorem OwnR.kept {base : Nat} {e : TypeId} {z : Nat} {w w1 : World} {v : Value} {css : List (List Value)} (h : OwnR base e z w v css) (hk : ∀ g, v.ownBlock = some g → g < w.heap.size → w1.heap[g]? = w.heap[g]?) : OwnR base e z w1 v css := by
  obtain ⟨⟨h1, h2⟩, h3⟩ := h
  refine ⟨⟨h1, ?_⟩, h3⟩
  rcases h2 with h2 | ⟨g, cap, cur, rfl, h5, h6, h7⟩
  · exact .inl h2
  · refine .inr ⟨g, cap, cur, rfl, h5, ?_, h7⟩
    rw [hk g rfl (by
      rcases Nat.lt_or_ge g w.heap.size with hlt | hge
      · exact hlt
      · rw [Array.getElem?_eq_none hge] at h6; cases h6)]
    exact h6
theorem OwnR.ext {base : Nat} {e : TypeId} {z : Nat} {w w1 : World} {v : Value} {css : List (List Value)} (h : OwnR base e z w v css) (he : Ext w w1) : OwnR base e z w1 v css := h.kept fun g _ hg => he.block g hg
theorem OwnR.upd {base : Nat} {e : TypeId} {z : Nat} {w w1 : World} {v : Value} {css : List (List Value)} {g : Nat} (h : OwnR base e z w v css) (he : Upd g w w1) (hne : v.ownBlock ≠ some g) : OwnR base e z w1 v css := h.kept fun g' hg' _ => he.block g' fun e => hne (by rw [hg', e])
theorem OwnR.weak {base base' : Nat} {e : TypeId} {z : Nat} {w : World} {v : Value} {css : List (List Value)} (h : OwnR base e z w v css) (hb : base' ≤ base) : OwnR base' e z w v css := by
  obtain ⟨⟨h1, h2⟩, h3⟩ := h
  refine ⟨⟨h1, ?_⟩, h3⟩
  rcases h2 with h2 | ⟨g, cap, cur, h4, h5, h6⟩
  · exact .inl h2
  · exact .inr ⟨g, cap, cur, h4, Nat.le_trans hb h5, h6⟩
theorem OwnR.own {base : Nat} {e : TypeId} {z : Nat} {w : World} {v : Value} {css : List (List Value)} (h : OwnR base e z w v css) : ∀ g, v.ownBlock = some g → base ≤ g ∧ g < w.heap.size := by
  obtain ⟨⟨h1, h2⟩, h3⟩ := h
  intro g hg
  rcases h2 with ⟨rfl, _⟩ | ⟨g', cap, cur, rfl, h5, h6, h7⟩
  · cases hg
  · cases hg
    refine ⟨h5, ?_⟩
    rcases Nat.lt_or_ge g' w.heap.size with hlt | hge
    · exact hlt
    · rw [Array.getElem?_eq_none hge] at h6; cases h6
theorem OwnR.val {base : Nat} {e : TypeId} {z : Nat} {w : World} {v : Value} {css : List (List Value)} (h : OwnR base e z w v css) : ∃ A c, v = .slice A css.length c := by
  obtain ⟨⟨h1, h2⟩, h3⟩ := h
  rcases h2 with ⟨rfl, h0⟩ | ⟨g', cap, cur, rfl, h5, h6, h7⟩
  · exact ⟨none, 0, by rw [h0]⟩
  · exact ⟨_, _, rfl⟩

/-- What the table says of the elements of a slice type. -/
structure ElemI (P : Program) where
  row : TypeId → Option (TypeId × Nat)
  row_ok : ∀ t e z, row t = some (e, z) → P.underlying t = some (.slice e) ∧ 0 < z ∧ ∃ i zv, P.info? e = some i ∧ i.zero = some zv ∧ i.size = z ∧ i.bytes ≤ 256 ∧ zv.cells.size = z

section
variable {P : Program} {n : Nat} {fr : Fr} {w : World} {k : Kt} {ops : Array Oper} {rest : List Oper}
/-- append onto a row of the call's own. -/
theorem WL_app (E : ElemI P) {p : List (Nat × Bool)} {d : Nat} {x y : Operand} {t ty : TypeId} {pos : String} {aft : Array Edge} {gd : Option (Nat × Bool)} {v : Value} {a : Addr} {m c base z : Nat} {e : TypeId} {css ncs : List (List Value)}
    (hp : pathOf ops fr ⟨some d, .call { callee := .builtin .append, args := #[x, y], argTypes := #[t, t] }, ty, pos, aft, gd⟩ = some p) (hx : gv fr p x = some v) (hy : gv fr p y = some (.slice (some a) m c)) (hsat : satB fr p = true)
    (ht : E.row t = some (e, z)) (hck : (decide (d < n) && fresh d fr) = true) (hown : OwnR base e z w v css) (hnc : CellsAt w a ncs.flatten) (hm : ncs.length = m) (hz : ∀ cs ∈ ncs, cs.length = z) (h1 : ∀ cs ∈ ncs, ∀ u ∈ cs, u.oneCell' = true)
    (hle : css.length + m ≤ 549755813888) (hb : base ≤ w.heap.size)
    (h : ∀ v' w', OwnR base e z w' v' (css ++ ncs) → w.grownBy w' v.ownBlock → (v'.ownBlock = v.ownBlock ∨ v'.ownBlock = some w.heap.size) → WL P n ops rest ((d, [], v') :: fr) w' k) :
    WL P n ops (⟨some d, .call { callee := .builtin .append, args := #[x, y], argTypes := #[t, t] }, ty, pos, aft, gd⟩ :: rest) fr w k := by
  simp only [Bool.and_eq_true] at hck
  obtain ⟨h11, h12⟩ := gv_ok hx
  obtain ⟨h21, h22⟩ := gv_ok hy
  obtain ⟨ht1, hzp, i, zv, hi, hzv, hsz, hby, hzs⟩ := E.row_ok t e z ht
  have hfl : ncs.flatten.length = m * z := by
    rw [← hm]
    have : ∀ l : List (List Value), (∀ cs ∈ l, cs.length = z) → l.flatten.length = l.length * z := by
      intro l
      induction l with
      | nil => intro _; simp
      | cons c r ih => intro hh; rw [List.flatten_cons, List.length_append, hh c (by simp), ih (fun c' hc' => hh c' (by simp [hc'])), List.length_cons, Nat.add_mul]; omega
    exact this ncs hz
  obtain ⟨v', w', hr, ho, hg, _, hrow⟩ := run_append_own_at (P := P) w base t ty e i zv z i.bytes ht1 hi hzv hsz rfl hzs hzp v css.length css.flatten hown.1 a m c ncs.flatten hfl hnc
    (fun u hu => by obtain ⟨cs, hc1, hc2⟩ := List.mem_flatten.1 hu; exact h1 cs hc1 u hc2) (by simp only [maxLen]; omega) (by have := Nat.mul_le_mul hle hby; omega) hb
  refine WL_op hp rfl (by simpa [Op.operands, Call.operands] using okO_two h11 h21) hsat rfl hck.1 hck.2 (v := v') (w' := w') ?_ (h v' w' ⟨?_, ?_⟩ hg hrow)
  · simp [execOp, resolve, invoke, builtin, h12, h22, hr]
  · rw [List.length_append, hm, List.flatten_append]; exact ho
  · intro cs hcs
    rcases List.mem_append.1 hcs with h | h
    · exact hown.2 cs h
    · exact hz cs h
/-- append of nothing. -/
theorem WL_app0 (E : ElemI P) {p : List (Nat × Bool)} {d : Nat} {x y : Operand} {t ty : TypeId} {pos : String} {aft : Array Edge} {gd : Option (Nat × Bool)} {A : Option Addr} {m c z : Nat} {e : TypeId}
    (hp : pathOf ops fr ⟨some d, .call { callee := .builtin .append, args := #[x, y], argTypes := #[t, t] }, ty, pos, aft, gd⟩ = some p) (hx : gv fr p x = some (.slice A m c)) (hmc : m ≤ c) (hy : gv fr p y = some (.slice none 0 0))
    (ht : E.row t = some (e, z)) (hck : (decide (d < n) && fresh d fr && freshP d p) = true)
    (h : WL P n ops rest ((d, p, .slice A m c) :: fr) w k) :
    WL P n ops (⟨some d, .call { callee := .builtin .append, args := #[x, y], argTypes := #[t, t] }, ty, pos, aft, gd⟩ :: rest) fr w k := by
  simp only [Bool.and_eq_true] at hck
  obtain ⟨h11, h12⟩ := gv_ok hx
  obtain ⟨h21, h22⟩ := gv_ok hy
  obtain ⟨ht1, hzp, i, zv, hi, hzv, hsz, hby, hzs⟩ := E.row_ok t e z ht
  refine WL_val hp rfl (by simpa [Op.operands, Call.operands] using okO_two h11 h21) rfl hck.1.1 hck.1.2 hck.2 (fun _ => ?_) h
  cases A <;> simp [execOp, resolve, invoke, builtin, h12, h22, Builtin.append_, run_underlying ht1, sizeOf, typeInfo, hi, Builtin.lenOf, Builtin.firstCells, loadCells, loadCellsFrom, hmc, storeCells]
/-- A slice is made. -/
theorem WL_bsl {p : List (Nat × Bool)} {d len : Nat} {parts : Array (Nat × Operand)} {t ty e : TypeId} {pos : String} {aft : Array Edge} {gd : Option (Nat × Bool)} {cs : List Value}
    (hp : pathOf ops fr ⟨some d, .buildSlice t len parts, ty, pos, aft, gd⟩ = some p) (hok : okO fr p (Op.buildSlice t len parts).operands.toList = true) (hsat : satB fr p = true) (hck : (decide (d < n) && fresh d fr) = true)
    {vs : List (Nat × Value)} (hvs : parts.toList.map (fun q => (q.1, evG fr q.2)) = vs) (hrun : (Instr.buildSlice t len vs.toArray).run P w = .ok (.slice (some ⟨w.heap.size, 0, none⟩) len len) (w.alloc (.cells cs.toArray e)))
    (h : ∀ g w1, g = w.heap.size → Blk w1 g e cs → Ext w w1 → WL P n ops rest ((d, [], .slice (some ⟨g, 0, none⟩) len len) :: fr) w1 k) : WL P n ops (⟨some d, .buildSlice t len parts, ty, pos, aft, gd⟩ :: rest) fr w k := by
  simp only [Bool.and_eq_true] at hck
  refine WL_op hp rfl hok hsat rfl hck.1 hck.2 (v := .slice (some ⟨w.heap.size, 0, none⟩) len len) ?_ (h _ _ rfl (Blk.new w e cs) ((Below.refl _ _).alloc (Nat.le_refl _) _))
  have hm : (parts.map fun (i, x) => (i, evG fr x)) = vs.toArray := Array.ext' (by rw [Array.toList_map, ← hvs])
  simp only [execOp, Sem.run_bind, hm, hrun]
  rfl
/-- A struct, an array is made. -/
theorem WL_bld {p : List (Nat × Bool)} {d : Nat} {parts : Array (Nat × Operand)} {t ty : TypeId} {pos : String} {aft : Array Edge} {gd : Option (Nat × Bool)} {v : Value}
    (hp : pathOf ops fr ⟨some d, .build t parts, ty, pos, aft, gd⟩ = some p) (hok : okO fr p (Op.build t parts).operands.toList = true) (hck : (decide (d < n) && fresh d fr && freshP d p) = true)
    {vs : List (Nat × Value)} (hvs : parts.toList.map (fun q => (q.1, evG fr q.2)) = vs) (hrun : ∀ w, (Instr.build t vs.toArray).run P w = .ok v w)
    (h : WL P n ops rest ((d, p, v) :: fr) w k) : WL P n ops (⟨some d, .build t parts, ty, pos, aft, gd⟩ :: rest) fr w k := by
  simp only [Bool.and_eq_true] at hck
  refine WL_val hp rfl hok rfl hck.1.1 hck.1.2 hck.2 (fun _ => ?_) h
  have hm : (parts.map fun (i, x) => (i, evG fr x)) = vs.toArray := Array.ext' (by rw [Array.toList_map, ← hvs])
  simp only [execOp, Sem.run_bind, hm, hrun]
  rfl
end

/-! ### Results, in slots or in cells -/
def ResOk (P : Program) (w : World) (fr : Fr) : List ResultVar → List Value → Prop
  | [], [] => True
  | .tmp t :: r, v :: vs => getG fr t = some ([], v) ∧ ResOk P w fr r vs
  | .cell t ty :: r, v :: vs => (∃ ad, getG fr t = some ([], .pointer (some ad)) ∧ (loadVar ty ad).run P w = .ok v w) ∧ ResOk P w fr r vs
  | _, _ => False
theorem loadVar_sca {P : Program} (I : Info P) {t : TypeId} {w : World} {a : Addr} {v : Value} (ht : I.sca t = true) (hc : w.cell? a = some v) : (loadVar t a).run P w = .ok v w := by
  simp [loadVar, (I.sca_ok t ht w).1, hc]
theorem loadVar_agg {P : Program} (I : Info P) {t : TypeId} {w : World} {a : Addr} {cs : List Value} (ht : I.aggZ t = some cs.length) (hc : CellsAt w a cs) : (loadVar t a).run P w = .ok (.agg cs.toArray) w := by
  obtain ⟨g1, g2⟩ := I.aggZ_ok t _ ht w
  simp [loadVar, g1, g2, run_loadCells_list (P := P) w a cs hc]
def endV : List Value → Value
  | [v] => v
  | vs => .tuple vs.toArray
def resM (tmps : Array Value) : ResultVar → Sem Value
  | .tmp t => pure (tmps.getD t undef)
  | .cell a t => do loadVar t (← asAddr (tmps.getD a undef))
theorem resM_run {P : Program} {w : World} {fr : Fr} {n : Nat} {a : Act} (ha : Has n fr a) : ∀ {rs : List ResultVar} {vs : List Value}, ResOk P w fr rs vs → (rs.mapM (resM a.tmps)).run P w = .ok vs w
  | [], [], _ => by simp
  | .tmp t :: r, v :: vs, h => by
    have h1 := ha.2.2 t [] v h.1
    simp only [satB, if_true] at h1
    have h2 := resM_run ha h.2
    simp [List.mapM_cons, resM, Array.getD_eq_getD_getElem?, h1, h2]
  | .cell t ty :: r, v :: vs, h => by
    obtain ⟨⟨ad, h0, hl⟩, hr⟩ := h
    have h1 := ha.2.2 t [] _ h0
    simp only [satB, if_true] at h1
    have h2 := resM_run ha hr
    simp [List.mapM_cons, resM, Array.getD_eq_getD_getElem?, h1, asAddr, hl, h2]
theorem results_run {P : Program} {w : World} {fr : Fr} {n : Nat} {a : Act} (ha : Has n fr a) {fn : Func} {vs : List Value} (h : ResOk P w fr fn.results.toList vs) : (results fn a.tmps).run P w = .ok (endV vs) w := by
  have h1 := resM_run ha h
  have h2 : (fn.results.mapM (resM a.tmps)).run P w = .ok vs.toArray w := by
    rw [Array.mapM_eq_mapM_toList]
    simp [Sem.run_map, h1]
  have h3 : results fn a.tmps = (do
      let vs ← fn.results.mapM (resM a.tmps)
      pure (if h : vs.size = 1 then vs[0] else .tuple vs)) := by
    unfold results resM
    rfl
  rw [h3, Sem.run_bind, h2]
  match vs with
  | [] => rfl
  | [v] => rfl
  | _ :: _ :: _ => rfl
/-- return. -/
theorem W_retL {P : Program} {n : Nat} {fr : Fr} {w : World} {k : Kt} {fn : Func} {R : Ending → World → Prop} {rs : List ResultVar} (vs : List Value) (hb : baseK k = some (bodyPost P fn R)) (hr : fn.results.toList = rs) (hv : ResOk P w fr rs vs) (h : R (.returned (endV vs)) w) :
    W P n .ret fr w k := W_ret fun _ ha => by
  rw [baseK_eq hb]
  subst hr
  exact bodyPost_ret (results_run ha hv) ha.2.1 h
def nilK : Kt → Option (Exit → Act → World → Prop)
  | .nil Q => some Q
  | .blk _ k | .jmp _ _ k => nilK k
  | _ => none
theorem nilK_ok {P : Program} {n : Nat} {fr : Fr} {w : World} : ∀ {k : Kt} {Q : Exit → Act → World → Prop}, nilK k = some Q → (∀ a, Has n fr a → Q .normal a w) → WN P n fr w k
  | .nil _, _, h, hq => by cases h; exact hq
  | .blk _ k, _, h, hq => WN_blk (nilK_ok (k := k) h hq)
  | .jmp _ _ k, _, h, hq => WN_jmp (nilK_ok (k := k) h hq)
/-- The end of a body without results. -/
theorem WLend {P : Program} {n : Nat} {fr : Fr} {w : World} {k : Kt} {ops : Array Oper} {fn : Func} {R : Ending → World → Prop} (hb : nilK k = some (bodyPost P fn R)) (hr : fn.results.toList = []) (h : R (.returned (.tuple #[])) w) : WL P n ops [] fr w k :=
  WL_nil (nilK_ok hb fun _ ha => bodyPost_end (results_run (vs := []) ha (by rw [hr]; trivial)) ha.2.1 h)
theorem W_end {P : Program} {n : Nat} {fr : Fr} {w : World} {k : Kt} {fn : Func} {R : Ending → World → Prop} (hb : nilK k = some (bodyPost P fn R)) (hr : fn.results.toList = []) (h : R (.returned (.tuple #[])) w) : W P n .skip fr w k :=
  W_skip (nilK_ok hb fun _ ha => bodyPost_end (results_run (vs := []) ha (by rw [hr]; trivial)) ha.2.1 h)
theorem W_exitEnd {P : Program} {n : Nat} {fr : Fr} {w : World} {k k1 : Kt} {id : Nat} {fn : Func} {R : Ending → World → Prop} (he : exitK id k = some k1) (hb : nilK k1 = some (bodyPost P fn R)) (hr : fn.results.toList = []) (h : R (.returned (.tuple #[])) w) : W P n (.exit id) fr w k :=
  W_exit (exitK_ok he (nilK_ok hb fun _ ha => bodyPost_end (results_run (vs := []) ha (by rw [hr]; trivial)) ha.2.1 h))
end Go.Proofs.YtljcmmmajjmpoaaGreatDoor
