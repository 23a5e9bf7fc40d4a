/- How the arguments of a law read: out of the row's own reading of memory. -/
import Derived.Test.YtljcmmmajjmpoaaGreatDoorData
import Derived.Carry
import Derived.OpenShut
import Derived.ShutString
import Derived.ProofKit
import Derived.ChangeOld
import Derived.SizedLaws
import Derived.Below
namespace Go.Proofs.YtljcmmmajjmpoaaGreatDoor
open Go.RowKit Go.ChangeShapes Go.WideShapes Go.ChangeAt Sp

section
variable {H : Type} {enc : TypeId × Value → H} {P : Program} {w : World} {base : Nat} {sp : Nat → Bool} {held : Bool}
abbrev TR (enc : TypeId × Value → H) (P : Program) (w : World) (base : Nat) (sp : Nat → Bool) (held : Bool) := DataW.trod enc P w base sp held
theorem mapM_all {α β : Type} {f : α → Option β} : ∀ {l : List α} {ys : List β}, l.mapM f = some ys → ∀ x ∈ l, ∃ y, f x = some y
  | [], _, _, x, hx => by cases hx
  | a :: r, ys, h, x, hx => by
    simp only [List.mapM_cons, Option.bind_eq_bind, Option.bind_eq_some_iff, Option.pure_def, Option.some.injEq] at h
    obtain ⟨y, hy, zs, hz, _⟩ := h
    rcases List.mem_cons.1 hx with rfl | hx
    · exact ⟨y, hy⟩
    · exact mapM_all hz x hx
theorem trod_pos {f : Nat} {t : TypeId} {cs : List Value} {x : DataW H × List MemPlace} (h : TR enc P w base sp held f t cs = some x) : ∃ g, f = g + 1 := by
  cases f with
  | zero => cases h
  | succ g => exact ⟨g, rfl⟩
theorem trod_str {f : Nat} {t : TypeId} {cs : List Value} {x : DataW H × List MemPlace} (ht : P.underlying t = some .string) (h : TR enc P w base sp held f t cs = some x) : ∃ l : L, cs = [.string (mkS l)] ∧ Len l := by
  obtain ⟨g, rfl⟩ := trod_pos h
  simp only [TR, DataW.trod, ht] at h
  split at h <;> simp_all
  rename_i s
  refine ⟨s.data.toList, ?_, ?_⟩
  · show mkS s.data.toList = s; rfl
  · rw [← size_len]; have := h.1; simp only [maxLen] at this; exact this
theorem trod_int {f : Nat} {t : TypeId} {cs : List Value} {x : DataW H × List MemPlace} (ht : P.underlying t = some (.int .i64)) (h : TR enc P w base sp held f t cs = some x) : ∃ n : Int, cs = [.int .i64 n] ∧ (Lit.int .i64 n).wf = true := by
  obtain ⟨g, rfl⟩ := trod_pos h
  simp only [TR, DataW.trod, ht] at h
  split at h <;> simp_all
theorem trod_bool {f : Nat} {t : TypeId} {cs : List Value} {x : DataW H × List MemPlace} (ht : P.underlying t = some .bool) (h : TR enc P w base sp held f t cs = some x) : ∃ b : Bool, cs = [.bool b] := by
  obtain ⟨g, rfl⟩ := trod_pos h
  simp only [TR, DataW.trod, ht] at h
  split at h <;> simp_all
def AllF (p : Field → Prop) : List Field → Prop
  | [] => True
  | x :: r => p x ∧ AllF p r
theorem mapM_allF {β : Type} {f : Field → Option β} : ∀ {l : List Field} {ys : List β}, l.mapM f = some ys → AllF (fun x => ∃ y, f x = some y) l
  | [], _, _ => trivial
  | a :: r, ys, h => by
    simp only [List.mapM_cons, Option.bind_eq_bind, Option.bind_eq_some_iff, Option.pure_def, Option.some.injEq] at h
    obtain ⟨y, hy, zs, hz, _⟩ := h
    exact ⟨⟨y, hy⟩, mapM_allF hz⟩
theorem trod_struct {f : Nat} {t : TypeId} {fs : Array Field} {cs : List Value} {x : DataW H × List MemPlace} (ht : P.underlying t = some (.struct fs)) (h : TR enc P w base sp held f t cs = some x) :
    cs.length = P.cellsOf t ∧ ∃ g, AllF (fun fd => ∃ y, TR enc P w base sp held g fd.type ((cs.drop fd.offset).take (P.cellsOf fd.type)) = some y) fs.toList := by
  obtain ⟨g, rfl⟩ := trod_pos h
  simp only [TR, DataW.trod, ht] at h
  split at h
  · rename_i hl
    rw [Option.map_eq_some_iff] at h
    obtain ⟨ys, hy, _⟩ := h
    exact ⟨hl, g, mapM_allF hy⟩
  · cases h
theorem list_of {α : Type} {p : Nat → α → Prop} : ∀ (n : Nat), (∀ i, i < n → ∃ x, p i x) → ∃ xs : List α, xs.length = n ∧ ∀ i x, xs[i]? = some x → p i x
  | 0, _ => ⟨[], rfl, fun i x h => by simp at h⟩
  | n + 1, h => by
    obtain ⟨xs, h1, h2⟩ := list_of n fun i hi => h i (by omega)
    obtain ⟨x, hx⟩ := h n (Nat.lt_succ_self n)
    refine ⟨xs ++ [x], by simp [h1], fun i y hy => ?_⟩
    rcases Nat.lt_or_ge i n with hi | hi
    · rw [List.getElem?_append_left (by omega)] at hy
      exact h2 i y hy
    · rw [List.getElem?_append_right (by omega)] at hy
      have hi0 : i = n := by
        have := (List.getElem?_eq_some_iff.1 hy).1
        simp at this; omega
      subst hi0
      rw [h1] at hy
      simp at hy
      subst hy
      exact hx
/-- The blocks that are there. -/
abbrev Old (w : World) : Nat → Prop := fun k => k < w.heap.size
theorem trod_sl {α : Type} {R : Rep α} {z f : Nat} {t e : TypeId} {cs : List Value} {x : DataW H × List MemPlace} (ht : P.underlying t = some (.slice e)) (hz : P.cellsOf e = z)
    (hread : ∀ (g : Nat) (cs : List Value) (y : DataW H × List MemPlace), cs.length = z → TR enc P w base sp held g e cs = some y → ∃ x : α, R (Old w) w x cs)
    (h : TR enc P w base sp held f t cs = some x) : ∃ v xs, cs = [v] ∧ Sl R z (Old w) w v xs := by
  obtain ⟨g, rfl⟩ := trod_pos h
  simp only [TR, DataW.trod, ht] at h
  split at h <;> try (simp at *; done)
  · exact ⟨_, [], rfl, Sl.nil _ _ _ _⟩
  · rename_i e' a len cap hsl
    cases hsl
    rw [hz] at h
    split at h
    · rename_i hc
      rw [Option.bind_eq_some_iff] at h
      obtain ⟨ys, hy, _⟩ := h
      have hel : ∀ i, i < len → ∃ x : α, ∃ ces, ces.length = z ∧ R (Old w) w x ces ∧ CellsB (Old w) w (a.add (i * z)) ces := fun i hi => by
        obtain ⟨y, hyi⟩ := mapM_all hy i (List.mem_range.2 hi)
        rw [Option.bind_eq_some_iff] at hyi
        obtain ⟨ces, h1, h2⟩ := hyi
        obtain ⟨_, h4, h5⟩ := World.cells?_some h1
        obtain ⟨x, hx⟩ := hread g ces y h4 h2
        refine ⟨x, ces, h4, hx, fun j v hj => ?_⟩
        have hjl := (List.getElem?_eq_some_iff.1 hj).1
        have hcell : w.cell? ((a.add (i * z)).add j) = some v := by rw [h5 j (by omega)]; exact hj
        exact ⟨by have := World.block_lt_of_cell? w _ hcell; rwa [add_block] at this, hcell⟩
      obtain ⟨xs, hl, hxs⟩ := list_of len hel
      subst hl
      exact ⟨_, xs, rfl, some a, cap, rfl, hc.2.1, hc.2.2, hxs⟩
    · cases h
end
section
variable {H : Type} {enc : TypeId × Value → H} {w : World} {base : Nat} {sp : Nat → Bool} {held : Bool}
theorem len1 {l : List Value} {n : Nat} (h : l.length = n + 1) : ∃ a r, l = a :: r ∧ r.length = n := by
  cases l with
  | nil => simp at h
  | cons a r => exact ⟨a, r, rfl, by simpa using h⟩
theorem len3 {l : List Value} (h0 : l.length = 3) : ∃ a b c, l = [a, b, c] := by
  obtain ⟨a, l1, e1, h1⟩ := len1 h0
  obtain ⟨b, l2, e2, h2⟩ := len1 h1
  obtain ⟨c, l3, e3, h3⟩ := len1 h2
  refine ⟨a, b, c, ?_⟩
  rw [e1, e2, e3, List.eq_nil_of_length_eq_zero h3]
theorem len4 {l : List Value} (h0 : l.length = 4) : ∃ a b c d, l = [a, b, c, d] := by
  obtain ⟨a, l1, e1, h1⟩ := len1 h0
  obtain ⟨b, l2, e2, h2⟩ := len1 h1
  obtain ⟨c, l3, e3, h3⟩ := len1 h2
  obtain ⟨d, l4, e4, h4⟩ := len1 h3
  refine ⟨a, b, c, d, ?_⟩
  rw [e1, e2, e3, e4, List.eq_nil_of_length_eq_zero h4]
theorem len6 {l : List Value} (h0 : l.length = 6) : ∃ a b c d e f, l = [a, b, c, d, e, f] := by
  obtain ⟨a, l1, e1, h1⟩ := len1 h0
  obtain ⟨b, l2, e2, h2⟩ := len1 h1
  obtain ⟨c, l3, e3, h3⟩ := len1 h2
  obtain ⟨d, l4, e4, h4⟩ := len1 h3
  obtain ⟨e, l5, e5, h5⟩ := len1 h4
  obtain ⟨f, l6, e6, h6⟩ := len1 h5
  refine ⟨a, b, c, d, e, f, ?_⟩
  rw [e1, e2, e3, e4, e5, e6, List.eq_nil_of_length_eq_zero h6]
theorem len7 {l : List Value} (h0 : l.length = 7) : ∃ a b c d e f g, l = [a, b, c, d, e, f, g] := by
  obtain ⟨a, l1, e1, h1⟩ := len1 h0
  obtain ⟨b, l2, e2, h2⟩ := len1 h1
  obtain ⟨c, l3, e3, h3⟩ := len1 h2
  obtain ⟨d, l4, e4, h4⟩ := len1 h3
  obtain ⟨e, l5, e5, h5⟩ := len1 h4
  obtain ⟨f, l6, e6, h6⟩ := len1 h5
  obtain ⟨g, l7, e7, h7⟩ := len1 h6
  refine ⟨a, b, c, d, e, f, g, ?_⟩
  rw [e1, e2, e3, e4, e5, e6, e7, List.eq_nil_of_length_eq_zero h7]
theorem len8 {l : List Value} (h0 : l.length = 8) : ∃ a b c d e f g i, l = [a, b, c, d, e, f, g, i] := by
  obtain ⟨a, l1, e1, h1⟩ := len1 h0
  obtain ⟨b, l2, e2, h2⟩ := len1 h1
  obtain ⟨c, l3, e3, h3⟩ := len1 h2
  obtain ⟨d, l4, e4, h4⟩ := len1 h3
  obtain ⟨e, l5, e5, h5⟩ := len1 h4
  obtain ⟨f, l6, e6, h6⟩ := len1 h5
  obtain ⟨g, l7, e7, h7⟩ := len1 h6
  obtain ⟨i, l8, e8, h8⟩ := len1 h7
  refine ⟨a, b, c, d, e, f, g, i, ?_⟩
  rw [e1, e2, e3, e4, e5, e6, e7, e8, List.eq_nil_of_length_eq_zero h8]
theorem cInt : Tryz.prog.cellsOf 3 = 1 := by kernel_rfl
theorem cStr : Tryz.prog.cellsOf 9 = 1 := by kernel_rfl
theorem cBool : Tryz.prog.cellsOf 4 = 1 := by kernel_rfl
theorem cIns : Tryz.prog.cellsOf 119 = 6 := by kernel_rfl
theorem one_of {v : Value} {l : List Value} {n k : Nat} (h : (l.drop n).take 1 = [v]) : l[n]? = some v := by
  have := congrArg (fun m => m[0]?) h
  simpa using this
theorem trodIns {g : Nat} {cs : List Value} {y : DataW H × List MemPlace} (h : TR enc Tryz.prog w base sp held g 119 cs = some y) : ∃ x : Ins, InsR (Old w) w x cs := by
  obtain ⟨hl, g, ⟨_, h0⟩, ⟨_, h1⟩, ⟨_, h2⟩, ⟨_, h3⟩, ⟨_, h4⟩, ⟨_, h5⟩, _⟩ := trod_struct Tryz.underlying119 h
  rw [cIns] at hl
  simp only [cInt, cStr] at h0 h1 h2 h3 h4 h5
  obtain ⟨c0, c1, c2, c3, c4, c5, rfl⟩ := len6 hl
  obtain ⟨n0, e0, -⟩ := trod_int Tryz.underlying3 h0
  obtain ⟨n1, e1, -⟩ := trod_int Tryz.underlying3 h1
  obtain ⟨n2, e2, -⟩ := trod_int Tryz.underlying3 h2
  obtain ⟨s3, e3, l3⟩ := trod_str Tryz.underlying9 h3
  obtain ⟨s4, e4, l4⟩ := trod_str Tryz.underlying9 h4
  obtain ⟨s5, e5, l5⟩ := trod_str Tryz.underlying9 h5
  simp at e0 e1 e2 e3 e4 e5
  subst e0 e1 e2 e3 e4 e5
  exact ⟨⟨n0, n1, n2, s3, s4, s5⟩, rfl, l3, l4, l5⟩
end
/-- A struct as an argument. -/
theorem open_agg {P : Program} {H : Type} {enc : TypeId × Value → H} {w w' : World} {base b0 : Nat} {sp : Nat → Bool} {held : Bool} {r : Reach} {t : TypeId} {fs : Array Field} {v : Value} {d : DataW H} {p : List MemPlace} (ht : P.underlying t = some (.struct fs)) (hval : Value.okWide P w' r b0 t v)
    (h : DataW.Trod enc P w base sp held t v d p) : ∃ cs : List Value, v = .agg cs.toArray ∧ ∃ f, TR enc P w base sp held f t cs = some (d, p) := by
  unfold Value.okWide at hval
  rw [ht] at hval
  obtain ⟨cs, rfl, _, _⟩ := hval
  obtain ⟨f, hf⟩ := h
  exact ⟨cs.toList, rfl, f, hf⟩
end Go.Proofs.YtljcmmmajjmpoaaGreatDoor
