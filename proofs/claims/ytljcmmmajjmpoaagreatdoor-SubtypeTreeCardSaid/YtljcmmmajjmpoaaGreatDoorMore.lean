/- More of the walk's rules: calls of function values, texts put together, maps from texts to numbers. -/
import Derived.Test.YtljcmmmajjmpoaaGreatDoorElem
namespace Go.Proofs.YtljcmmmajjmpoaaGreatDoor
open Go.RowKit Sp

section
variable {P : Program} {n : Nat} {fr : Fr} {w : World} {k : Kt} {ops : Array Oper} {rest : List Oper}
/-- A function value is called. -/
theorem WL_callv {p : List (Nat × Bool)} {d f : Nat} {x : Operand} {args : List Operand} {ts : Array TypeId} {ty : TypeId} {pos : String} {aft : Array Edge} {gd : Option (Nat × Bool)} {vs cap : List Value} {R : Ending → World → Prop}
    (hp : pathOf ops fr ⟨some d, .call { callee := .value x, args := args.toArray, argTypes := ts }, ty, pos, aft, gd⟩ = some p) (hx : gv fr p x = some (.func (.func f) #[] cap.toArray)) (hok : okO fr p args = true) (hsat : satB fr p = true)
    (hck : (decide (d < n) && fresh d fr) = true) (hen : Enters P f) (hvs : args.map (evG fr) = vs) (hc : Calls P f (vs ++ cap).toArray w R)
    (h : ∀ e w', R e w' → ∃ v, e = .returned v ∧ WL P n ops rest ((d, [], v) :: fr) w' k) :
    WL P n ops (⟨some d, .call { callee := .value x, args := args.toArray, argTypes := ts }, ty, pos, aft, gd⟩ :: rest) fr w k := fun a ha => by
  simp only [Bool.and_eq_true] at hck
  refine wpList_step fun K hK => ?_
  rw [wanted_path ha hp, hsat, if_pos rfl]
  unfold Oper.wp
  obtain ⟨g1, g2⟩ := gv_ok hx
  have e1 : a.eval x = .func (.func f) #[] cap.toArray := (ha.eval hsat _ g1 _ (by simp)).trans g2
  have he : (execOp a.eval ⟨some d, .call { callee := .value x, args := args.toArray, argTypes := ts }, ty, pos, aft, gd⟩).run P w = .ok (.enter f (vs ++ cap).toArray) w := by
    have hm : args.map a.eval = vs := by
      rw [← hvs]
      exact List.map_congr_left fun x hx => ha.eval hsat _ hok x hx
    simp only [execOp, resolve, Sem.run_bind, List.map_toArray, hm, e1]
    simp [Deferred.ofValue, invoke, hen _ w]
  rw [he, Oper.upon_enter]
  refine hc.mono fun e w' hR => ?_
  obtain ⟨v, rfl, hw⟩ := h e w' hR
  exact hK _ _ (hw _ (ha.put (by simpa using hck.1) hck.2 rfl rfl))
/-- Two texts are put together. -/
theorem WL_cat {p : List (Nat × Bool)} {d : Nat} {x y : Operand} {t yt ty : TypeId} {pos : String} {aft : Array Edge} {gd : Option (Nat × Bool)} {a b r : L}
    (hp : pathOf ops fr ⟨some d, .binOp .add t x y yt, ty, pos, aft, gd⟩ = some p) (hx : gv fr p x = some (.string (mkS a))) (hy : gv fr p y = some (.string (mkS b)))
    (hck : (decide (d < n) && fresh d fr && freshP d p) = true) (hl : satB fr p = true → a.length + b.length ≤ 9223372036854775807) (hr : a ++ b = r)
    (h : WL P n ops rest ((d, p, .string (mkS r)) :: fr) w k) : WL P n ops (⟨some d, .binOp .add t x y yt, ty, pos, aft, gd⟩ :: rest) fr w k := by
  simp only [Bool.and_eq_true] at hck
  obtain ⟨h1, h2⟩ := gv_ok hx
  obtain ⟨h3, h4⟩ := gv_ok hy
  refine WL_val hp rfl (by simpa [Op.operands] using okO_two h1 h3) rfl hck.1.1 hck.1.2 hck.2 (fun hs => ?_) h
  subst hr
  have := run_string_add_sum (P := P) (w := w) (mkS a) (mkS b) (by rw [mkS_size, mkS_size]; exact hl hs)
  have e : mkS a ++ mkS b = mkS (a ++ b) := ByteArray.mk_append_mk a b
  rw [e] at this
  simp [execOp, h2, h4, binOp, eqGuard, this]
end

/-! ### Maps from texts to numbers -/
def encE (p : L × Int) : Value × Value := (.string (mkS p.1), .int .i64 p.2)
def MapAt (w : World) (r : Nat) (es : List (L × Int)) : Prop := ∃ arr clock, w.heap[r]? = some (.map arr clock) ∧ arr.toList.map (fun e => (e.key, e.val)) = es.map encE ∧ MapKept.Stamped arr clock
def lkD : List (L × Int) → L → Option Int
  | [], _ => none
  | (s, v) :: r, x => if s = x then some v else lkD r x
def putD : List (L × Int) → L → Int → List (L × Int)
  | [], x, v => [(x, v)]
  | (s, u) :: r, x, v => if s = x then (s, v) :: r else (s, u) :: putD r x v
theorem MapAt.lt {w : World} {r : Nat} {es : List (L × Int)} (h : MapAt w r es) : r < w.heap.size := by
  obtain ⟨arr, clock, hb, _⟩ := h
  rcases Nat.lt_or_ge r w.heap.size with hlt | hge
  · exact hlt
  · rw [Array.getElem?_eq_none hge] at hb; cases hb
theorem MapAt.kept {w w1 : World} {r : Nat} {es : List (L × Int)} (h : MapAt w r es) (hk : w1.heap[r]? = w.heap[r]?) : MapAt w1 r es := by
  obtain ⟨arr, clock, hb, he⟩ := h
  exact ⟨arr, clock, hk.trans hb, he⟩
theorem MapAt.ext {w w1 : World} {r : Nat} {es : List (L × Int)} (h : MapAt w r es) (he : Ext w w1) : MapAt w1 r es := h.kept (he.block r h.lt)
theorem MapAt.upd {w w1 : World} {r g : Nat} {es : List (L × Int)} (h : MapAt w r es) (he : Upd g w w1) (hne : r ≠ g) : MapAt w1 r es := h.kept (he.block r hne)
theorem mkS_inj {a b : L} (h : mkS a = mkS b) : a = b := congrArg (fun s : ByteArray => s.data.toList) h
theorem mkS_beq (a b : L) : (mkS a == mkS b) = decide (a = b) := by
  have h1 : (mkS a == mkS b) = true ↔ a = b := by
    rw [MapKept.bytes_beq]
    exact ⟨mkS_inj, fun e => by rw [e]⟩
  rw [Bool.eq_iff_iff]; simp [h1]
/-- Where the key is found. -/
def ixD : List (L × Int) → L → Nat → Option (Nat × Int)
  | [], _, _ => none
  | (s, v) :: r, x, i => if s = x then some (i, v) else ixD r x (i + 1)
theorem ixD_lk : ∀ (es : List (L × Int)) (x : L) (i : Nat), (ixD es x i).map (·.2) = lkD es x
  | [], _, _ => rfl
  | (s, v) :: r, x, i => by
    unfold ixD lkD
    split
    · rfl
    · exact ixD_lk r x (i + 1)
theorem findNow_es (x : L) : ∀ (l : List MapEntry) (es : List (L × Int)) (i : Nat), l.map (fun e => (e.key, e.val)) = es.map encE → Instr.findNow .string (.string (mkS x)) l i = some ((ixD es x i).map fun q => (q.1, .int .i64 q.2))
  | [], [], _, _ => rfl
  | [], _ :: _, _, h => by simp at h
  | _ :: _, [], _, h => by simp at h
  | e :: l, (s, v) :: es, i, h => by
    simp only [List.map_cons, List.cons.injEq, encE, Prod.mk.injEq] at h
    obtain ⟨⟨h1, h2⟩, h3⟩ := h
    have ih := findNow_es x l es (i + 1) h3
    unfold Instr.findNow ixD
    simp only [h1, h2, Instr.sameNow, mkS_beq]
    by_cases hx : x = s
    · simp [hx]
    · rw [if_neg (fun e => hx e.symm)]
      simp [hx, ih]
theorem ixD_put : ∀ (es : List (L × Int)) (x : L) (i j : Nat) (u v : Int), ixD es x i = some (j, u) → i ≤ j ∧ j - i < es.length ∧ putD es x v = es.set (j - i) (x, v) ∧ (es[j - i]?).map (·.1) = some x
  | [], _, _, _, _, _, h => by simp [ixD] at h
  | (s, t) :: r, x, i, j, u, v, h => by
    unfold ixD at h
    split at h
    · rename_i e; cases h; simp [putD, e]
    · rename_i e
      obtain ⟨h1, h2, h3, h4⟩ := ixD_put r x (i + 1) j u v h
      have hj : j - i = (j - (i + 1)) + 1 := by omega
      refine ⟨by omega, by simp; omega, ?_, ?_⟩
      · rw [hj, putD, if_neg e, h3]; rfl
      · rw [hj]; simpa using h4
theorem ixD_none : ∀ (es : List (L × Int)) (x : L) (i : Nat) (v : Int), ixD es x i = none → putD es x v = es ++ [(x, v)]
  | [], _, _, _, _ => rfl
  | (s, t) :: r, x, i, v, h => by
    unfold ixD at h
    split at h
    · cases h
    · rename_i e
      rw [putD, if_neg e, ixD_none r x (i + 1) v h]; rfl
theorem ixD_notin : ∀ {es : List (L × Int)} {x : L} {i : Nat}, ixD es x i = none → ∀ p ∈ es, p.1 ≠ x
  | [], _, _, _, p, hp => by cases hp
  | (s, t) :: r, x, i, h, p, hp => by
    unfold ixD at h
    split at h
    · cases h
    · rename_i e
      rcases List.mem_cons.1 hp with rfl | hp
      · exact e
      · exact ixD_notin h p hp
/-- A map of texts to numbers. -/
def isMapSI (P : Program) (t : TypeId) : Prop := ∃ kt et, P.underlying t = some (.map kt et) ∧ P.underlying kt = some .string ∧ ∀ w, (zeroValue et).run P w = .ok (.int .i64 0) w
theorem checkKey_str {P : Program} {kt : TypeId} (hk : P.underlying kt = some .string) (b : Bool) (s : ByteArray) (w : World) : (Instr.checkKey b 10000 kt (.string s)).run P w = .ok () w := by
  unfold Instr.checkKey
  simp [run_underlying hk]
theorem findKey_run {P : Program} {kt : TypeId} (hk : P.underlying kt = some .string) {x : L} {l : List MapEntry} {es : List (L × Int)} (he : l.map (fun e => (e.key, e.val)) = es.map encE) (w : World) :
    (Instr.findKey kt (.string (mkS x)) l).run P w = .ok ((ixD es x 0).map fun q => (q.1, .int .i64 q.2)) w := by
  unfold Instr.findKey
  simp only [Sem.run_bind, run_underlying hk, Result.andThen_ok, findNow_es x l es 0 he]
  rfl
theorem lookup_run {P : Program} {t : TypeId} (ht : isMapSI P t) {w : World} {r : Nat} {es : List (L × Int)} (hm : MapAt w r es) (x : L) (ok : Bool) :
    (Instr.lookup t (.map (some r)) (.string (mkS x)) ok).run P w = .ok (if ok then .tuple #[.int .i64 ((lkD es x).getD 0), .bool (lkD es x).isSome] else .int .i64 ((lkD es x).getD 0)) w := by
  obtain ⟨kt, et, h1, h2, h3⟩ := ht
  obtain ⟨arr, clock, hb, he, _⟩ := hm
  have hl := ixD_lk es x 0
  have hf := fun w => findKey_run (P := P) (kt := kt) (x := x) h2 he w
  have hc := fun b w => checkKey_str (P := P) (kt := kt) h2 b (mkS x) w
  cases hx : ixD es x 0 with
  | none =>
    rw [hx] at hl
    rw [hx] at hf
    simp only [Option.map_none] at hl hf
    cases ok <;> simp [Instr.lookup, run_underlying h1, MapKept.run_getObj_map hb, hc, hf, Result.andThen, h3, ← hl]
  | some q =>
    rw [hx] at hl
    rw [hx] at hf
    simp only [Option.map_some] at hl hf
    cases ok <;> simp [Instr.lookup, run_underlying h1, MapKept.run_getObj_map hb, hc, hf, Result.andThen, ← hl]
section
variable {P : Program} {n : Nat} {fr : Fr} {w : World} {k : Kt} {ops : Array Oper} {rest : List Oper}
/-- m[x], ok. -/
theorem WL_lk2 {p : List (Nat × Bool)} {d r : Nat} {m y : Operand} {t ty : TypeId} {pos : String} {aft : Array Edge} {gd : Option (Nat × Bool)} {es : List (L × Int)} {x : L}
    (hp : pathOf ops fr ⟨some d, .lookup t m y true, ty, pos, aft, gd⟩ = some p) (hx : gv fr p m = some (.map (some r))) (hy : gv fr p y = some (.string (mkS x))) (ht : isMapSI P t)
    (hck : (decide (d < n) && fresh d fr && freshP d p) = true) (hm : MapAt w r es)
    (h : WL P n ops rest ((d, p, .tuple #[.int .i64 ((lkD es x).getD 0), .bool (lkD es x).isSome]) :: fr) w k) : WL P n ops (⟨some d, .lookup t m y true, ty, pos, aft, gd⟩ :: rest) fr w k := by
  simp only [Bool.and_eq_true] at hck
  obtain ⟨h1, h2⟩ := gv_ok hx
  obtain ⟨h3, h4⟩ := gv_ok hy
  refine WL_val hp rfl (by simpa [Op.operands] using okO_two h1 h3) rfl hck.1.1 hck.1.2 hck.2 (fun _ => ?_) h
  simp [execOp, h2, h4, lookup_run ht hm]
theorem WL_lk1 {p : List (Nat × Bool)} {d r : Nat} {m y : Operand} {t ty : TypeId} {pos : String} {aft : Array Edge} {gd : Option (Nat × Bool)} {es : List (L × Int)} {x : L}
    (hp : pathOf ops fr ⟨some d, .lookup t m y false, ty, pos, aft, gd⟩ = some p) (hx : gv fr p m = some (.map (some r))) (hy : gv fr p y = some (.string (mkS x))) (ht : isMapSI P t)
    (hck : (decide (d < n) && fresh d fr && freshP d p) = true) (hm : MapAt w r es)
    (h : WL P n ops rest ((d, p, .int .i64 ((lkD es x).getD 0)) :: fr) w k) : WL P n ops (⟨some d, .lookup t m y false, ty, pos, aft, gd⟩ :: rest) fr w k := by
  simp only [Bool.and_eq_true] at hck
  obtain ⟨h1, h2⟩ := gv_ok hx
  obtain ⟨h3, h4⟩ := gv_ok hy
  refine WL_val hp rfl (by simpa [Op.operands] using okO_two h1 h3) rfl hck.1.1 hck.1.2 hck.2 (fun _ => ?_) h
  simp [execOp, h2, h4, lookup_run ht hm]
end
theorem keyStays_str {P : Program} (s : ByteArray) (w : World) : (Instr.keyThatStays (.string s) (.string s)).run P w = .ok (.string s) w := MapKept.run_keyThatStays (d := .string) trivial
/-- What an update leaves. -/
theorem update_run {P : Program} {t : TypeId} (ht : isMapSI P t) {w : World} {r : Nat} {es : List (L × Int)} (hm : MapAt w r es) (x : L) (v : Int) :
    ∃ w1, (Instr.mapUpdate t (.map (some r)) (.string (mkS x)) (.int .i64 v)).run P w = .ok () w1 ∧ MapAt w1 r (putD es x v) ∧ Upd r w w1 := by
  obtain ⟨kt, et, h1, h2, h3⟩ := ht
  obtain ⟨arr, clock, hb, he, hst⟩ := id hm
  have hlt := hm.lt
  have upd : ∀ o : Obj, Upd r w { w with heap := w.heap.setIfInBounds r o } := fun o => ⟨rfl, rfl, rfl, by simp, fun j hj => by simp [Array.getElem?_setIfInBounds, Ne.symm hj]⟩
  have hf := fun w => findKey_run (P := P) (kt := kt) (x := x) h2 he w
  have hc := fun b w => checkKey_str (P := P) (kt := kt) h2 b (mkS x) w
  cases hx : ixD es x 0 with
  | none =>
    rw [hx] at hf
    simp only [Option.map_none] at hf
    refine ⟨_, by simp [Instr.mapUpdate, run_underlying h1, MapKept.run_getObj_map hb, hc, hf, MapKept.run_setObj_map _ hb, Result.andThen]; rfl, ⟨_, _, by simp [hlt]; exact ⟨rfl, rfl⟩, ?_, ?_⟩, upd _⟩
    · rw [ixD_none es x 0 v hx]
      simp [he, encE]
    · refine MapKept.stamped_push hst fun e he1 hek => ?_
      have h9 : (e.key, e.val) ∈ es.map encE := by rw [← he]; exact List.mem_map.2 ⟨e, he1, rfl⟩
      obtain ⟨p, hp, hpe⟩ := List.mem_map.1 h9
      have h10 : Value.string (mkS p.1) = .string (mkS x) := (congrArg Prod.fst hpe).trans hek
      exact ixD_notin hx p hp (mkS_inj (by simpa using h10))
  | some q =>
    obtain ⟨j, u⟩ := q
    obtain ⟨h5, h6, h7, h8⟩ := ixD_put es x 0 j u v hx
    simp only [Nat.sub_zero] at h6 h7 h8
    have hkey : ((arr[j]?).map (·.key)).getD (.string (mkS x)) = .string (mkS x) := by
      have := congrArg (fun l => (l[j]?).map (·.1)) he
      simp only [List.getElem?_map, Option.map_map] at this
      rw [← Array.getElem?_toList]
      cases ha : arr.toList[j]? with
      | none => rfl
      | some e =>
        rw [ha] at this
        cases hes : es[j]? with
        | none => rw [hes] at this; simp at this
        | some p =>
          rw [hes] at this h8
          simp [encE] at this h8
          simp [this, h8]
    rw [hx] at hf
    simp only [Option.map_some] at hf
    refine ⟨_, by simp [Instr.mapUpdate, run_underlying h1, MapKept.run_getObj_map hb, hc, hf, hkey, keyStays_str, MapKept.run_setObj_map _ hb, Result.andThen]; rfl, ⟨_, _, by simp [hlt]; exact ⟨rfl, rfl⟩, ?_, ?_⟩, upd _⟩
    · rw [h7]
      apply List.ext_getElem?
      intro i
      have hi := congrArg (fun l => l[i]?) he
      simp only [List.getElem?_map] at hi
      simp only [List.getElem?_map, Array.toList_modify, List.getElem?_modify, List.getElem?_set]
      by_cases hij : j = i
      · subst hij
        cases ha : arr.toList[j]? with
        | none => rw [ha] at hi; have := List.getElem?_eq_none_iff.1 (by simpa using hi.symm : es[j]? = none); omega
        | some e => simp [h6, encE]
      · cases ha : arr.toList[i]? <;> rw [ha] at hi <;> simp [hij] <;> simpa using hi
    · refine MapKept.stamped_modify hst j _ (fun _ _ => rfl) fun e _ hej => ?_
      rw [hej] at hkey
      simpa using hkey.symm
section
variable {P : Program} {n : Nat} {fr : Fr} {w : World} {k : Kt} {ops : Array Oper} {rest : List Oper}
/-- m[x] = v. -/
theorem WL_mu {p : List (Nat × Bool)} {r : Nat} {m y z : Operand} {t ty : TypeId} {pos : String} {aft : Array Edge} {gd : Option (Nat × Bool)} {es : List (L × Int)} {x : L} {v : Int}
    (hp : pathOf ops fr ⟨none, .mapUpdate t m y z, ty, pos, aft, gd⟩ = some p) (hx : gv fr p m = some (.map (some r))) (hy : gv fr p y = some (.string (mkS x))) (hz : gv fr p z = some (.int .i64 v)) (hsat : satB fr p = true) (ht : isMapSI P t) (hm : MapAt w r es)
    (h : ∀ w1, MapAt w1 r (putD es x v) → Upd r w w1 → WL P n ops rest fr w1 k) : WL P n ops (⟨none, .mapUpdate t m y z, ty, pos, aft, gd⟩ :: rest) fr w k := by
  obtain ⟨h1, h2⟩ := gv_ok hx
  obtain ⟨h3, h4⟩ := gv_ok hy
  obtain ⟨h5, h6⟩ := gv_ok hz
  obtain ⟨w1, hr, hm1, hu⟩ := update_run ht hm x v
  refine WL_do hp rfl (by simpa [Op.operands] using okO_app (l := [m]) h1 (okO_two h3 h5)) hsat rfl (w' := w1) ?_ (h w1 hm1 hu)
  simp [execOp, h2, h4, h6, hr]
/-- A map is made. -/
theorem WL_mk {p : List (Nat × Bool)} {d : Nat} {t ty : TypeId} {pos : String} {aft : Array Edge} {gd : Option (Nat × Bool)}
    (hp : pathOf ops fr ⟨some d, .makeMap t none, ty, pos, aft, gd⟩ = some p) (hsat : satB fr p = true) (hck : (decide (d < n) && fresh d fr) = true)
    (h : ∀ g w1, g = w.heap.size → MapAt w1 g [] → Ext w w1 → WL P n ops rest ((d, [], .map (some g)) :: fr) w1 k) : WL P n ops (⟨some d, .makeMap t none, ty, pos, aft, gd⟩ :: rest) fr w k := by
  simp only [Bool.and_eq_true] at hck
  refine WL_op hp rfl (by simp [Op.operands, okO]) hsat rfl hck.1 hck.2 (v := .map (some w.heap.size)) (w' := w.alloc (.map #[] 0)) ?_ (h _ _ rfl ⟨#[], 0, heap_alloc_new w _, rfl, MapKept.stamped_empty 0⟩ ((Below.refl _ _).alloc (Nat.le_refl _) _))
  rfl
end
end Go.Proofs.YtljcmmmajjmpoaaGreatDoor
