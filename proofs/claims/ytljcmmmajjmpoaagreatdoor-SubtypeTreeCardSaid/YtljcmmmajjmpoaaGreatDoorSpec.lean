/- Plain words: what the small functions on names and types compute. No program in sight. -/
import Derived.Lib.Bytealg
import Derived.Lib.Strings
import Derived.Laws.Strings
namespace Go.Proofs.YtljcmmmajjmpoaaGreatDoor.Sp

abbrev L := List UInt8
/-- A text of these bytes. -/
def mkS (l : L) : ByteArray := ⟨l.toArray⟩
theorem mkS_data (l : L) : (mkS l).data.toList = l := rfl
theorem eq_mkS (s : ByteArray) : s = mkS s.data.toList := rfl
theorem mkS_size (l : L) : (mkS l).size = l.length := by show l.toArray.size = _; simp
theorem size_len (s : ByteArray) : s.size = s.data.toList.length := by show s.data.size = _; simp
theorem ext_mk {s : ByteArray} {l : L} (h : s.data.toList = l) : s = mkS l := by subst h; rfl

/-- May a byte stand at place k of a name? -/
def okC (c : Nat) (k : Nat) : Bool := decide (97 ≤ c ∧ c ≤ 122 ∨ 65 ≤ c ∧ c ≤ 90 ∨ c = 95 ∨ k ≠ 0 ∧ 48 ≤ c ∧ c ≤ 57)
def nameFrom : Nat → L → Bool
  | _, [] => true
  | k, c :: r => okC c.toNat k && nameFrom (k + 1) r
/-- desc.Name. -/
def nameB (l : L) : Bool := nameFrom 0 l && !l.isEmpty && decide (l.length ≤ 30)
theorem nameFrom_no : ∀ (l : L) (j k : Nat) (hk : k < l.length), okC l[k].toNat (j + k) = false → nameFrom j l = false
  | c :: r, j, 0, _, h => by simp at h; simp [nameFrom, h]
  | c :: r, j, k + 1, hk, h => by
    simp only [List.length_cons] at hk
    have := nameFrom_no r (j + 1) k (by omega) (by rw [show j + 1 + k = j + (k + 1) by omega]; simpa using h)
    simp [nameFrom, this]
theorem nameFrom_yes : ∀ (l : L) (j : Nat), (∀ (k : Nat) (hk : k < l.length), okC l[k].toNat (j + k) = true) → nameFrom j l = true
  | [], _, _ => rfl
  | c :: r, j, h => by
    have h0 := h 0 (by simp)
    have := nameFrom_yes r (j + 1) (fun k hk => by have := h (k + 1) (by simp; omega); rw [show j + 1 + k = j + (k + 1) by omega]; simpa using this)
    simp at h0
    simp [nameFrom, h0, this]

def init_ : L := [60, 105, 110, 105, 116, 62]
def clinit_ : L := [60, 99, 108, 105, 110, 105, 116, 62]
/-- desc.MethodName. -/
def mnameB (l : L) : Bool := l == init_ || l == clinit_ || nameB l

/-- desc.next: what is left behind a type; so many '[' were read. -/
def nextD : Nat → L → Option L
  | _, [] => none
  | d, c :: r =>
    if 4 < d then none
    else if c = 91 then nextD (d + 1) r
    else if c = 73 ∨ c = 67 then some r
    else if Lib.indexByte (c :: r) 59 < 0 ∨ c ≠ 76 ∨ nameB (((c :: r).take (Lib.indexByte (c :: r) 59).toNat).drop 1) = false then none
    else some ((c :: r).drop ((Lib.indexByte (c :: r) 59).toNat + 1))
def nextP (l : L) : L × L := match nextD 0 l with
  | none => ([], l)
  | some r => (l.take (l.length - r.length), r)
/-- desc.Type. -/
def typeB (l : L) : Bool := nextD 0 l == some []
theorem indexByte_lt (l : L) (c : UInt8) : Lib.indexByte l c < l.length := by
  induction l with
  | nil => simp [Lib.indexByte]
  | cons b l ih =>
    unfold Lib.indexByte
    simp only [List.length_cons]
    split
    · omega
    · split <;> omega
theorem indexByte_ge (l : L) (c : UInt8) : -1 ≤ Lib.indexByte l c := by
  induction l with
  | nil => simp [Lib.indexByte]
  | cons b l ih =>
    unfold Lib.indexByte
    split
    · omega
    · split <;> omega
theorem nextD_lt : ∀ (l : L) (d : Nat) (r : L), nextD d l = some r → r.length < l.length
  | [], _, _, h => by simp [nextD] at h
  | c :: l, d, r, h => by
    unfold nextD at h
    split at h
    · cases h
    · split at h
      · have := nextD_lt l (d + 1) r h; simp; omega
      · split at h
        · cases h; simp
        · split at h
          · cases h
          · cases h
            rename_i h1
            have h2 := indexByte_lt (c :: l) 59
            simp only [List.length_drop, List.length_cons] at *
            omega
theorem nextD_suffix : ∀ (l : L) (d : Nat) (r : L), nextD d l = some r → ∃ t, l = t ++ r
  | [], _, _, h => by simp [nextD] at h
  | c :: l, d, r, h => by
    unfold nextD at h
    split at h
    · cases h
    · split at h
      · obtain ⟨t, ht⟩ := nextD_suffix l (d + 1) r h; exact ⟨c :: t, by rw [ht]; rfl⟩
      · split at h
        · cases h; exact ⟨[c], rfl⟩
        · split at h
          · cases h
          · cases h; exact ⟨(c :: l).take _, (List.take_append_drop _ _).symm⟩
theorem typeB_next (l : L) : typeB l = (!(nextP l).1.isEmpty && (nextP l).2.isEmpty) := by
  unfold typeB nextP
  split
  · rename_i h; rw [h]; rfl
  · rename_i r h
    have := nextD_lt l 0 r h
    rw [h]
    cases r with
    | nil =>
      cases l with
      | nil => simp at this
      | cons c l => simp
    | cons c r => simp

def paramsD : Nat → L → List L × L
  | 0, l => ([], l)
  | n + 1, l => match nextD 0 l with
    | none => ([], l)
    | some r => let x := paramsD n r; (l.take (l.length - r.length) :: x.1, x.2)
/-- desc.Method: the parameters and the result. -/
def methodP (l : L) : Option (List L × L) := match l with
  | 40 :: r => match (paramsD 8 r).2 with
    | 41 :: res => if res = [86] ∨ typeB res = true then some ((paramsD 8 r).1, res) else none
    | _ => none
  | _ => none
end Go.Proofs.YtljcmmmajjmpoaaGreatDoor.Sp
