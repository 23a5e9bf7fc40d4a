/- link.Classes: what it tells, and the memory of a program that is being built. -/
import Derived.Test.YtljcmmmajjmpoaaGreatDoorDone
namespace Go.Proofs.YtljcmmmajjmpoaaGreatDoor
open Go.RowKit Sp

def rulesD (P : Option (List Cls)) : List (Cls → Bool) := [superD P, implD P, straightD P, apartD, faceD, wholeD, doneD P]
def firstBad (rs : List (Cls → Bool)) (l : List Cls) : Option Cls := rs.findSome? fun k => l.find? fun c => !k c
def progD (l : List Cls) : List Cls := sortC (builtinD ++ l)
/-- link.Classes. -/
def linkD (l : List Cls) : Except (Int × L) (List Cls) :=
  if 30 < l.length then .error (5, [])
  else match l.find? (fun c => checkC c != 0) with
  | some c => .error (checkC c, c.name)
  | none => match doubledD l with
    | some n => .error (8, n)
    | none => match firstBad (rulesD (some (progD l))) l with
      | some c => .error (8, c.name)
      | none => .ok (progD l)
theorem checkC_small {c : Cls} (h : checkC c = 0) : Small c := by
  unfold checkC at h
  split at h
  · cases h
  · split at h
    · cases h
    · rename_i h2
      split at h
      · cases h
      · split at h
        · rename_i h4; exact absurd h h4
        · rename_i h4
          have h5 : firstE (c.methods.map methodE) = 0 := Decidable.not_not.1 h4
          simp only [Bool.or_eq_true, decide_eq_true_eq, not_or, Nat.not_lt] at h2
          exact ⟨by omega, by omega, by omega, fun m hm => methodE_small (firstE_all methodE c.methods h5 m hm)⟩
theorem doubled_none : ∀ {l : List Cls}, doubledD l = none → (l.map (·.name)).Nodup ∧ ∀ c ∈ l, (builtinD.any fun x => x.name == c.name) = false
  | [], _ => ⟨by simp, by simp⟩
  | c :: r, h => by
    unfold doubledD at h
    split at h
    · cases h
    · rename_i hc
      simp only [Bool.or_eq_true, not_or, Bool.not_eq_true] at hc
      obtain ⟨h1, h2⟩ := doubled_none h
      refine ⟨?_, fun x hx => ?_⟩
      · rw [List.map_cons, List.nodup_cons]
        refine ⟨fun hm => ?_, h1⟩
        obtain ⟨y, hy, he⟩ := List.mem_map.1 hm
        have := List.any_eq_false.1 hc.2 y hy
        exact this (by simpa using he)
      · rcases List.mem_cons.1 hx with rfl | hx
        · exact hc.1
        · exact h2 x hx
theorem builtin_nodup : (builtinD.map (·.name)).Nodup := by decide +kernel
theorem builtin_len : builtinD.length = 12 := by decide +kernel
theorem builtin_impl : ∀ c ∈ builtinD, c.impl = [] := by
  have : builtinD.all (fun c => c.impl.isEmpty) = true := by decide +kernel
  intro c hc
  have := List.all_eq_true.1 this c hc
  simpa using this
theorem all_nodup {l : List Cls} (h : doubledD l = none) : ((builtinD ++ l).map (·.name)).Nodup := by
  obtain ⟨h1, h2⟩ := doubled_none h
  rw [List.map_append, List.nodup_append]
  refine ⟨builtin_nodup, h1, fun a ha b hb e => ?_⟩
  subst e
  obtain ⟨x, hx, hxe⟩ := List.mem_map.1 ha
  obtain ⟨y, hy, hye⟩ := List.mem_map.1 hb
  have := List.any_eq_false.1 (h2 y hy) x hx
  exact this (by simp [hxe, hye])
theorem progD_perm (l : List Cls) : (progD l).Perm (builtinD ++ l) := List.mergeSort_perm _ _
theorem progD_len (l : List Cls) : (progD l).length = 12 + l.length := by rw [(progD_perm l).length_eq, List.length_append, builtin_len]
theorem progD_nodup {l : List Cls} (h : doubledD l = none) : ((progD l).map (·.name)).Nodup := ((progD_perm l).map _).nodup_iff.2 (all_nodup h)
theorem flat_le {α β : Type} (f : α → List β) (n : Nat) : ∀ l : List α, (∀ x ∈ l, (f x).length ≤ n) → (l.flatMap f).length ≤ l.length * n
  | [], _ => by simp
  | a :: r, h => by
    have h1 := h a (by simp)
    have h2 := flat_le f n r fun x hx => h x (by simp [hx])
    rw [List.flatMap_cons, List.length_append, List.length_cons, Nat.add_mul]
    omega
theorem fitP_prog {l : List Cls} (hl : l.length ≤ 30) (hs : ∀ c ∈ l, Small c) : FitP (some (progD l)) := by
  have hlen := progD_len l
  refine ⟨by show (progD l).length ≤ 1000; omega, ?_⟩
  show ((progD l).flatMap (·.impl)).length ≤ 100000
  have := flat_le (fun c : Cls => c.impl) 30 (progD l) fun c hc => by
    rcases List.mem_append.1 ((progD_perm l).mem_iff.1 hc) with h | h
    · rw [builtin_impl c h]; simp
    · exact (hs c h).1
  have h2 : (progD l).length * 30 ≤ 42 * 30 := Nat.mul_le_mul_right _ (by omega)
  omega
theorem lk_put : ∀ (es : List (L × Int)) (x s : L) (v : Int), lkD (putD es x v) s = if x = s then some v else lkD es s
  | [], x, s, v => rfl
  | (k, u) :: r, x, s, v => by
    have ih := lk_put r x s v
    unfold putD
    by_cases h : k = x
    · subst h
      rw [if_pos rfl]
      unfold lkD
      split <;> rfl
    · rw [if_neg h]
      unfold lkD
      by_cases h2 : k = s
      · subst h2
        rw [if_pos rfl, if_pos rfl, if_neg (fun e => h e.symm)]
      · rw [if_neg h2, if_neg h2, ih]
theorem Idx.step {es : List (L × Int)} {cs : List Cls} {k : Nat} {c : Cls} (h : Idx es (cs.take k)) (hx : cs[k]? = some c) (hn : (cs.map (·.name)).Nodup) : Idx (putD es c.name k) (cs.take (k + 1)) := by
  intro s
  have hlt : k < cs.length := (List.getElem?_eq_some_iff.1 hx).1
  have hl : (cs.take k).length = k := by rw [List.length_take]; omega
  rw [lk_put, h s, List.take_add_one, hx]
  show _ = Option.map _ (List.findIdx? _ (cs.take k ++ [c]))
  rw [List.findIdx?_append]
  by_cases hs : c.name = s
  · rw [if_pos hs]
    have hno : (cs.take k).findIdx? (fun c => c.name == s) = none := by
      rw [List.findIdx?_eq_none_iff]
      intro y hy
      obtain ⟨j, hj, rfl⟩ := List.getElem_of_mem hy
      rw [hl] at hj
      simp only [List.getElem_take, beq_eq_false_iff_ne, ne_eq]
      intro he
      have h1 := List.pairwise_iff_getElem.1 hn j k (by simp; omega) (by simpa using hlt) hj
      apply h1
      simp only [List.getElem_map]
      rw [he, ← hs]
      have := (List.getElem?_eq_some_iff.1 hx).2
      rw [this]
    rw [hno]
    simp [hs, hl]
  · rw [if_neg hs]
    have : ([c].findIdx? fun c => c.name == s) = none := by simp [hs]
    rw [this]
    cases (cs.take k).findIdx? (fun c => c.name == s) <;> rfl
theorem find_take {α : Type} (p : α → Bool) {xs : List α} {k : Nat} {x : α} (hx : xs[k]? = some x) (hno : ∀ j y, j < k → xs[j]? = some y → p y = false) (hp : p x = true) : xs.find? p = some x := by
  obtain ⟨hlt, he⟩ := List.getElem?_eq_some_iff.1 hx
  rw [List.find?_eq_some_iff_getElem]
  refine ⟨hp, k, hlt, he, fun j hj => ?_⟩
  have := hno j xs[j] hj (List.getElem?_eq_getElem (by omega))
  simp [this]
theorem find_no {α : Type} (p : α → Bool) {xs : List α} (hno : ∀ j y, j < xs.length → xs[j]? = some y → p y = false) : xs.find? p = none := by
  rw [List.find?_eq_none]
  intro x hx
  obtain ⟨j, hj, rfl⟩ := List.getElem_of_mem hx
  rw [hno j _ hj (List.getElem?_eq_getElem hj)]
  simp
theorem firstBad_at {rs : List (Cls → Bool)} {l : List Cls} {i : Nat} {k : Cls → Bool} {c : Cls} (hi : rs[i]? = some k) (hno : ∀ j k', j < i → rs[j]? = some k' → (l.find? fun c => !k' c) = none) (hc : (l.find? fun c => !k c) = some c) : firstBad rs l = some c := by
  obtain ⟨hlt, he⟩ := List.getElem?_eq_some_iff.1 hi
  unfold firstBad
  rw [List.findSome?_eq_some_iff]
  refine ⟨rs.take i, k, rs.drop (i + 1), ?_, hc, fun x hx => ?_⟩
  · rw [← he, ← List.drop_eq_getElem_cons hlt, List.take_append_drop]
  · obtain ⟨j, hj, rfl⟩ := List.getElem_of_mem hx
    rw [List.length_take] at hj
    rw [List.getElem_take]
    exact hno j _ (by omega) (List.getElem?_eq_getElem (by omega))
theorem firstBad_no {rs : List (Cls → Bool)} {l : List Cls} (hno : ∀ j k', j < rs.length → rs[j]? = some k' → (l.find? fun c => !k' c) = none) : firstBad rs l = none := by
  unfold firstBad
  rw [List.findSome?_eq_none_iff]
  intro x hx
  obtain ⟨j, hj, rfl⟩ := List.getElem_of_mem hx
  exact hno j _ hj (List.getElem?_eq_getElem hj)

/-- A row of classes of the call's own, apart from block q. -/
def OwnQ (q base : Nat) (w : World) (v : Value) (xs : List Cls) : Prop := ∃ css, OwnR base 44 7 w v css ∧ Each (ClsR (fun b => Bx base w v b ∧ b ≠ q) w) xs css
section
variable {q base : Nat} {w w1 w2 w3 : World} {v v' : Value} {xs : List Cls}
theorem OwnQ.of (h : OwnT ClsR 44 7 base w v xs) (hq : w.heap.size ≤ q) : OwnQ q base w v xs := by
  obtain ⟨css, h1, h2⟩ := h
  exact ⟨css, h1, h2.imp fun x cs h => ClsR.mono _ _ _ _ _ _ h (Keeps.rfl' _ _) fun b hb => ⟨hb, by have := hb.2.1; omega⟩⟩
theorem OwnQ.ext (h : OwnQ q base w v xs) (he : Ext w w1) : OwnQ q base w1 v xs := by
  obtain ⟨css, h1, h2⟩ := h
  exact ⟨css, h1.ext he, h2.imp fun x cs h => ClsR.mono _ _ _ _ _ _ h he.keeps fun b ⟨⟨b1, b2, b3⟩, b4⟩ => ⟨⟨b1, Nat.lt_of_lt_of_le b2 he.size, b3⟩, b4⟩⟩
theorem OwnQ.upd (h : OwnQ q base w v xs) (hu : Upd q w w1) (hq : some q ≠ v.ownBlock) : OwnQ q base w1 v xs := by
  obtain ⟨css, h1, h2⟩ := h
  exact ⟨css, h1.upd hu fun e => hq e.symm, h2.imp fun x cs h => ClsR.mono _ _ _ _ _ _ h (hu.keeps fun b hb => hb.2) fun b ⟨⟨b1, b2, b3⟩, b4⟩ => ⟨⟨b1, by rw [hu.size]; exact b2, b3⟩, b4⟩⟩
theorem OwnQ.updM (h : OwnQ q base w v xs) {r : Nat} {es : List (L × Int)} (hm : MapAt w r es) (hu : Upd r w w1) : OwnQ q base w1 v xs := by
  obtain ⟨css, h1, h2⟩ := h
  exact ⟨css, h1.upd hu fun e => h1.neMap hm e.symm, h2.imp fun x cs h => ClsR.mono _ _ _ _ _ _ h (keepsMap hm hu.gr) fun b ⟨⟨b1, b2, b3⟩, b4⟩ => ⟨⟨b1, by rw [hu.size]; exact b2, b3⟩, b4⟩⟩
/-- One class more. -/
theorem OwnQ.app {css : List (List Value)} (h2 : Each (ClsR (fun b => Bx base w v b ∧ b ≠ q) w) xs css) (he : Ext w w1) {c : Cls} {cs : List Value} {B1 : Nat → Prop} (hc : ClsR B1 w1 c cs) (hB : ∀ b, B1 b → Bx base w1 v b ∧ b ≠ q)
    (ho : OwnR base 44 7 w2 v' (css ++ [cs])) (hg : w1.grownBy w2 v.ownBlock) (hv : v'.ownBlock = v.ownBlock ∨ v'.ownBlock = some w1.heap.size) : OwnQ q base w2 v' (xs ++ [c]) := by
  have gr : ∀ b, Bx base w1 v b ∧ b ≠ q → Bx base w2 v' b ∧ b ≠ q := fun b hb => ⟨hb.1.grown hg hv, hb.2⟩
  refine ⟨_, ho, Each.app (h2.imp fun x cs h => ?_) ⟨?_, trivial⟩⟩
  · have h1 : ClsR (fun b => Bx base w1 v b ∧ b ≠ q) w1 x cs := ClsR.mono _ _ _ _ _ _ h he.keeps fun b ⟨⟨b1, b2, b3⟩, b4⟩ => ⟨⟨b1, Nat.lt_of_lt_of_le b2 he.size, b3⟩, b4⟩
    exact ClsR.mono _ _ _ _ _ _ h1 (grown_keeps hg fun k hk => hk.1.2.2) gr
  · exact ClsR.mono _ _ _ _ _ _ hc (grown_keeps hg fun k hk => (hB k hk).1.2.2) fun b hb => gr b (hB b hb)
theorem OwnQ.sl (h : OwnQ q base w v xs) : Sl ClsR 7 Any_ w v xs := by
  obtain ⟨css, h1, h2⟩ := h
  exact h1.sl (h2.imp fun x cs h => ClsR.mono _ _ _ _ _ _ h (Keeps.rfl' _ _) fun _ _ => trivial) fun _ _ => trivial
theorem OwnQ.len (h : OwnQ q base w v xs) : ∃ A c, v = .slice A xs.length c := by
  obtain ⟨css, h1, h2⟩ := h
  rw [h2.len]
  exact h1.val
theorem OwnQ.ne (h : OwnQ q base w v xs) {k : Nat} {t : TypeId} {cs : List Value} (hk : Blk w k t cs) (ht : decide (t = 44) = false) : some k ≠ v.ownBlock := by
  obtain ⟨css, h1, h2⟩ := h
  exact h1.ne hk ht
theorem OwnQ.own (h : OwnQ q base w v xs) : ∀ g, v.ownBlock = some g → base ≤ g ∧ g < w.heap.size := by
  obtain ⟨css, h1, h2⟩ := h
  exact h1.own
end
/-- What Classes hands back. -/
def LinkR (w : World) : Except (Int × L) (List Cls) → Ending → Prop
  | .error x, e => e = .returned (.tuple #[.pointer none, .int .i64 x.1, .string (mkS x.2)])
  | .ok P, e => ∃ q, e = .returned (.tuple #[.pointer (some ⟨q, 0, none⟩), .int .i64 0, .string (mkS [])]) ∧ ProgAt w q P
def rulesN : List Nat := [57, 58, 59, 60, 61, 62, 63]
theorem rule_any {B : Nat → Prop} (P : Option (List Cls)) (pv : Value) (c : Cls) (cs : List Value) (w : World) (hP : PrgV w pv P) (hf : FitP P) (hc : ClsR B w c cs) : ∀ (i f : Nat) (k : Cls → Bool), rulesN[i]? = some f → (rulesD P)[i]? = some k →
    Enters Tryz.prog f ∧ Calls Tryz.prog f #[pv, .agg cs.toArray] w fun e w' => e = .returned (.bool (k c)) ∧ Ext w w' := by
  intro i f k h1 h2
  match i with
  | 0 => cases h1; cases h2; exact ⟨enters_super, super_any P c pv cs w hP hc⟩
  | 1 => cases h1; cases h2; exact ⟨enters_implements, implements_any P c pv cs w hP hc⟩
  | 2 => cases h1; cases h2; exact ⟨enters_straight, straight_any P c pv cs w hP hf.1 hc⟩
  | 3 => cases h1; cases h2; exact ⟨enters_apart, apart_any c pv cs w hc⟩
  | 4 => cases h1; cases h2; exact ⟨enters_face, face_any c pv cs w hc⟩
  | 5 => cases h1; cases h2; exact ⟨enters_whole, whole_any c pv cs w hc⟩
  | 6 => cases h1; cases h2; exact ⟨enters_done, done_any P c pv cs w hP hf hc⟩
  | n + 7 => simp [rulesN] at h1
end Go.Proofs.YtljcmmmajjmpoaaGreatDoor
