/- How values lie in memory: rows of cells, read below what a call makes. -/
import Derived.Test.YtljcmmmajjmpoaaGreatDoorProg
import Derived.Test.YtljcmmmajjmpoaaGreatDoorSpec
import Derived.WalkKit
import Derived.WalkSpells
import Derived.WalkLawsBesides
import Derived.Lib.Hide
import Derived.ScopeJumps
import Derived.Deep.DeepCutAuto
import Derived.Deep.Draws
namespace Go.Proofs.YtljcmmmajjmpoaaGreatDoor
open Go.RowKit Sp

abbrev Len (l : L) : Prop := l.length ≤ 9223372036854775807
theorem wrapS (s : ByteArray) : Value.string s = .string (mkS s.data.toList) := rfl
theorem str_ext {s : ByteArray} {l : L} (h : s.data.toList = l) : Value.string s = .string (mkS l) := by subst h; rfl
theorem toList_mk (s : ByteArray) : s.toList = s.data.toList := ByteArray.toList_eq s
theorem ret_str {s : ByteArray} {l : L} (h : s.data.toList = l) : Ending.returned (.string s) = .returned (.string (mkS l)) := by rw [str_ext h]
theorem ret_bool {a b : Bool} (h : a = b) : Ending.returned (.bool a) = .returned (.bool b) := by rw [h]
theorem ret_int {k : IntKind} {a b : Int} (h : a = b) : Ending.returned (.int k a) = .returned (.int k b) := by rw [h]
theorem ext_data (s : ByteArray) (a b : Nat) : (s.extract a b).data.toList = (s.data.toList.drop a).take (b - a) := Lib.extract_data s a b

/-- A scope in which the run jumps back to one label, and comes to it first from above: the way from the label on is walked once. -/
theorem wp_scope_label {P : Program} {a : Act} {w : World} {Q : Exit → Act → World → Prop} {c rest : Code} (l : Nat) (J : Act → World → Prop) (μ : Act → World → Nat) (hf : findLabel c l = some (Code.skip.seq rest))
    (pass : ∀ a w, J a w → rest.wp P (Exit.jump l (fun a' w' => J a' w' ∧ μ a' w' < μ a w) Q) a w)
    (first : Hid (∀ a w, J a w → rest.wp P (Exit.jump l J Q) a w) → c.wp P (Exit.jump l J Q) a w) : (Code.scope c).wp P Q a w :=
  wp_scope_jumps l J μ hf (first fun a w hJ => wp_mono (pass a w hJ) fun e a' w' q => by
    cases e <;> first | exact q | exact ⟨q.1, q.2.1⟩) fun a w hJ => wp_seq (wp_skip (pass a w hJ))
end Go.Proofs.YtljcmmmajjmpoaaGreatDoor
