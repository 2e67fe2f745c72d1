/- Regions that draw their order: what the check of a region gives. -/
import Derived.Test.YtfkmaoghehhloaaAe10
set_option linter.unusedVariables false
set_option linter.unusedSimpArgs false
namespace Go.Ae
variable {P : Program}

theorem bitOf_eq (m i : Nat) : bitOf m i = m.testBit i := by
  unfold bitOf
  have : Nat.shiftRight m i = m / 2 ^ i := Nat.shiftRight_eq_div_pow m i
  rw [Nat.testBit_eq_decide_div_mod_eq, this]
  show Nat.beq (m / 2 ^ i % 2) 1 = _
  cases h : Nat.beq (m / 2 ^ i % 2) 1 with
  | true => have := Nat.eq_of_beq_eq_true h; simp [this]
  | false => have := Nat.ne_of_beq_eq_false h; simp [this]
theorem bitOf_or (a b i : Nat) : bitOf (Nat.lor a b) i = (bitOf a i || bitOf b i) := by
  rw [bitOf_eq, bitOf_eq, bitOf_eq]
  exact Nat.testBit_or a b i
theorem bitOf_pow (n i : Nat) : bitOf (Nat.pow 2 n) i = decide (n = i) := by
  rw [bitOf_eq]
  exact Nat.testBit_two_pow
theorem bitOf_zero (i : Nat) : bitOf 0 i = false := by rw [bitOf_eq]; exact Nat.zero_testBit i

theorem edgeMask_bit (b : T Nat) : ∀ (es : List Edge) (i : Nat), bitOf (edgeMask b es) i = true → ∃ e ∈ es, Region.binds .any e = true ∧ (i = e.on ∨ bitOf (maskAt b e.on) i = true) := by
  intro es
  induction es with
  | nil => intro i h; rw [edgeMask, bitOf_zero] at h; cases h
  | cons e es ih =>
    intro i h
    rw [edgeMask] at h
    split at h
    · rename_i hb
      rw [bitOf_or, bitOf_or, bitOf_pow] at h
      simp only [Bool.or_eq_true, decide_eq_true_eq] at h
      rcases h with (h | h) | h
      · exact ⟨e, by simp, hb, .inl h.symm⟩
      · exact ⟨e, by simp, hb, .inr h⟩
      · obtain ⟨e', he', h1⟩ := ih i h
        exact ⟨e', by simp [he'], h1⟩
    · obtain ⟨e', he', h1⟩ := ih i h
      exact ⟨e', by simp [he'], h1⟩
theorem befs_below : ∀ (l : List Oper) (j : Nat) (b : T Nat) (q : Nat), q < j → (befs j b l).get q = b.get q := by
  intro l
  induction l with
  | nil => intro j b q h; rfl
  | cons o l ih =>
    intro j b q h
    rw [befs, ih (j + 1) _ q (by omega), T.get_set, if_neg (by omega)]
theorem befs_inv : ∀ (l p : List Oper) (j : Nat) (b : T Nat), j = p.length → (∀ q, j ≤ q → b.get q = none) →
    (∀ q i, bitOf (maskAt b q) i = true → ∃ o, p[q]? = some o ∧ ∃ e ∈ o.after.toList, Region.binds .any e = true ∧ (i = e.on ∨ (e.on < q ∧ bitOf (maskAt b e.on) i = true))) →
    ∀ q i, bitOf (maskAt (befs j b l) q) i = true → ∃ o, (p ++ l)[q]? = some o ∧ ∃ e ∈ o.after.toList, Region.binds .any e = true ∧ (i = e.on ∨ (e.on < q ∧ bitOf (maskAt (befs j b l) e.on) i = true)) := by
  intro l
  induction l with
  | nil => intro p j b hj hn h; simpa [befs] using h
  | cons o l ih =>
    intro p j b hj hn h
    have key : ∀ q, q < j → maskAt (b.set j (edgeMask b o.after.toList)) q = maskAt b q := fun q hq => by
      unfold maskAt; rw [T.get_set, if_neg (by omega)]
    have self : maskAt (b.set j (edgeMask b o.after.toList)) j = edgeMask b o.after.toList := by unfold maskAt; rw [T.get_set, if_pos rfl]
    have none_ : ∀ q, j ≤ q → maskAt b q = 0 := fun q hq => by unfold maskAt; rw [hn q hq]
    rw [show p ++ o :: l = (p ++ [o]) ++ l by simp]
    rw [befs]
    refine ih (p ++ [o]) (j + 1) _ (by simp [hj]) (fun q hq => by rw [T.get_set, if_neg (by omega)]; exact hn q (by omega)) fun q i hb => ?_
    rcases Nat.lt_trichotomy q j with hlt | heq | hgt
    · rw [key q hlt] at hb
      obtain ⟨o', ho', e, he, hbd, hc⟩ := h q i hb
      refine ⟨o', by rw [List.getElem?_append_left (by omega)]; exact ho', e, he, hbd, ?_⟩
      rcases hc with hc | ⟨h1, h2⟩
      · exact .inl hc
      · exact .inr ⟨h1, by rw [key _ (by omega)]; exact h2⟩
    · subst heq
      rw [self] at hb
      obtain ⟨e, he, hbd, hc⟩ := edgeMask_bit b _ _ hb
      refine ⟨o, by rw [List.getElem?_append_right (by omega), hj]; simp, e, he, hbd, ?_⟩
      rcases hc with hc | hc
      · exact .inl hc
      · by_cases hlt : e.on < q
        · exact .inr ⟨hlt, by rw [key _ hlt]; exact hc⟩
        · rw [none_ _ (by omega), bitOf_zero] at hc; cases hc
    · have : maskAt (b.set j (edgeMask b o.after.toList)) q = 0 := by
        unfold maskAt; rw [T.get_set, if_neg (by omega), hn q (by omega)]
      rw [this, bitOf_zero] at hb; cases hb
theorem before_spec (ops : Array Oper) (j i : Nat) (h : ahd ops i j = true) :
    ∃ o, ops[j]? = some o ∧ ∃ e ∈ o.after.toList, Region.binds .any e = true ∧ (i = e.on ∨ (e.on < j ∧ ahd ops i e.on = true)) := by
  unfold ahd befOf at h ⊢
  have := befs_inv ops.toList [] 0 .nil rfl (fun _ _ => rfl) (fun q i h => by
    have h0 : maskAt T.nil q = 0 := rfl
    rw [h0, bitOf_zero] at h; cases h) j i h
  simpa using this

/-- What is listed has all listed that stands ahead of it. -/
def Closed (ops : Array Oper) (listed : Array Bool) : Prop :=
  ∀ j o, ops[j]? = some o → listed.getD j false = true → ∀ e ∈ o.after.toList, Region.binds .any e = true → listed.getD e.on false = true
theorem ahead_listed {ops : Array Oper} {listed : Array Bool} (hc : Closed ops listed) : ∀ (j i : Nat), ahd ops i j = true →
    (∀ o, ops[j]? = some o → ∀ e ∈ o.after.toList, Region.binds .any e = true → listed.getD e.on false = true) → listed.getD i false = true := by
  intro j
  induction j using Nat.strongRecOn with
  | _ j ih =>
    intro i h hr
    obtain ⟨o, ho, e, he, hb, hcase⟩ := before_spec ops j i h
    have hl := hr o ho e he hb
    rcases hcase with rfl | ⟨hlt, hbit⟩
    · exact hl
    · exact ih e.on hlt i hbit fun o' ho' => hc e.on o' ho' hl

theorem rows_at {ops : Array Oper} {b : T Nat} : ∀ {l : List Oper} {j : Nat}, (rowsOf ops b j l).length = l.length ∧ ∀ (m : Nat) (o : Oper), l[m]? = some o → (rowsOf ops b j l)[m]? = some ⟨j + m, o, lookMask ops o, maskAt b (j + m), floatOp o.op, loadOp o.op || allocOp o.op⟩ := by
  intro l
  induction l with
  | nil => intro j; exact ⟨rfl, fun m o h => by simp at h⟩
  | cons x l ih =>
    intro j
    refine ⟨by simp [rowsOf, (ih (j := j + 1)).1], fun m o h => ?_⟩
    cases m with
    | zero => simp at h; subst h; rfl
    | succ m =>
      have := (ih (j := j + 1)).2 m o (by simpa using h)
      rw [rowsOf, List.getElem?_cons_succ, this, show j + 1 + m = j + (m + 1) by omega]
noncomputable def rowAt (ops : Array Oper) (j : Nat) (o : Oper) : PRow := ⟨j, o, lookMask ops o, maskAt (befOf ops) j, floatOp o.op, loadOp o.op || allocOp o.op⟩
theorem opRows_at {ops : Array Oper} {j : Nat} {o : Oper} (h : ops[j]? = some o) : (opRows ops)[j]? = some (rowAt ops j o) := by
  have := (rows_at (ops := ops) (b := befOf ops) (l := ops.toList) (j := 0)).2 j o (by simpa using h)
  rw [Nat.zero_add] at this
  exact this
theorem opRows_mem {ops : Array Oper} {r : PRow} (h : r ∈ opRows ops) : ∃ j o, ops[j]? = some o ∧ r = rowAt ops j o := by
  obtain ⟨j, hj⟩ := List.getElem?_of_mem h
  have hl : j < ops.toList.length := by
    have := (List.getElem?_eq_some_iff.1 hj).1
    rw [opRows, (rows_at (ops := ops) (b := befOf ops) (l := ops.toList) (j := 0)).1] at this
    exact this
  have ho : ops[j]? = some ops.toList[j] := by rw [← Array.getElem?_toList]; exact List.getElem?_eq_getElem hl
  have := opRows_at ho
  rw [hj] at this
  exact ⟨j, _, ho, by simpa using this⟩
theorem tmpMask_bit (d : Nat) : ∀ l : List Operand, bitOf (tmpMask l) d = l.any (isTmp d) := by
  intro l
  induction l with
  | nil => exact bitOf_zero d
  | cons x l ih =>
    cases x with
    | tmp t =>
      rw [tmpMask, bitOf_or, bitOf_pow, ih, List.any_cons]
      congr 1
    | const c => rw [tmpMask, ih, List.any_cons]; rfl; intro t h; cases h
    | global g => rw [tmpMask, ih, List.any_cons]; rfl; intro t h; cases h
    | func f => rw [tmpMask, ih, List.any_cons]; rfl; intro t h; cases h
theorem lookMask_bit (ops : Array Oper) (o : Oper) (d : Nat) : bitOf (lookMask ops o) d = looks ops o d := by
  unfold lookMask looks
  cases hg : o.guard with
  | none => simp only [tmpMask_bit, Bool.or_false]
  | some gw =>
    obtain ⟨g, w⟩ := gw
    simp only
    cases ht : (ops[g]?).bind (·.dst) with
    | none => simp only [tmpMask_bit, Bool.or_false]
    | some t =>
      simp only
      rw [bitOf_or, bitOf_pow, tmpMask_bit, Bool.or_comm]
      congr 1
theorem calmFrom_at {p : PRow} : ∀ {l : List PRow}, calmFrom p l = true → ∀ r ∈ l, calmPair p r = true := by
  intro l
  induction l with
  | nil => intro _ r hr; cases hr
  | cons x l ih =>
    intro h r hr
    simp only [calmFrom, Bool.and_eq_true] at h
    rcases List.mem_cons.1 hr with rfl | hr
    · exact h.1
    · exact ih h.2 r hr
theorem calmAll_at : ∀ {l : List PRow}, calmAll l = true → (∀ r ∈ l, calmOne r = true) ∧ (∀ (m k : Nat) (p r : PRow), l[m]? = some p → l[k]? = some r → m < k → calmPair p r = true) := by
  intro l
  induction l with
  | nil => intro h; exact ⟨fun r hr => (by cases hr), fun m k p r hm => by simp at hm⟩
  | cons x l ih =>
    intro h
    simp only [calmAll, Bool.and_eq_true] at h
    obtain ⟨h1, h2⟩ := ih h.2
    refine ⟨fun r hr => ?_, fun m k p r hm hk hlt => ?_⟩
    · rcases List.mem_cons.1 hr with rfl | hr
      · exact h.1.1
      · exact h1 r hr
    · cases k with
      | zero => omega
      | succ k =>
        cases m with
        | zero =>
          simp at hm; subst hm
          exact calmFrom_at h.1.2 r (List.mem_of_getElem? (by simpa using hk))
        | succ m => exact h2 m k p r (by simpa using hm) (by simpa using hk) (by omega)

/-- The check, read. -/
structure CalmOps (ops : Array Oper) : Prop where
  dst : ∀ (i j : Nat) (p o : Oper) (d : Nat), ops[i]? = some p → ops[j]? = some o → i < j → p.dst = some d → o.dst ≠ some d
  use : ∀ (i j : Nat) (p o : Oper) (d : Nat), ops[i]? = some p → ops[j]? = some o → i < j → p.dst = some d → looks ops o d = true → ahd ops i j = true
  anti : ∀ (i j : Nat) (p o : Oper) (d : Nat), ops[i]? = some p → ops[j]? = some o → i < j → o.dst = some d → looks ops p d = true → ahd ops i j = true
  edge : ∀ (j : Nat) (o : Oper), ops[j]? = some o → ∀ e ∈ o.after.toList, Region.binds .any e = true → e.on < j
  own : ∀ (j : Nat) (o : Oper) (d : Nat), ops[j]? = some o → o.dst = some d → looks ops o d = false
theorem edgesOk_at {j : Nat} : ∀ {l : List Edge}, edgesOk j l = true → ∀ e ∈ l, Region.binds .any e = true → e.on < j := by
  intro l
  induction l with
  | nil => intro _ e he; cases he
  | cons x l ih =>
    intro h e he hb
    simp only [edgesOk, Bool.and_eq_true, Bool.or_eq_true, Bool.not_eq_true'] at h
    rcases List.mem_cons.1 he with rfl | he
    · rcases h.1 with h1 | h1
      · rw [hb] at h1; cases h1
      · exact Nat.le_of_ble_eq_true h1
    · exact ih h.2 e he hb
theorem calm_of {ops : Array Oper} (h : calmAll (opRows ops) = true) : CalmOps ops := by
  obtain ⟨h1, h2⟩ := calmAll_at h
  have one : ∀ j o, ops[j]? = some o → calmOne (rowAt ops j o) = true := fun j o ho => h1 _ (List.mem_of_getElem? (opRows_at ho))
  have pair : ∀ i j p o, ops[i]? = some p → ops[j]? = some o → i < j → calmPair (rowAt ops i p) (rowAt ops j o) = true := fun i j p o hi hj hlt => h2 i j _ _ (opRows_at hi) (opRows_at hj) hlt
  refine ⟨?_, ?_, ?_, ?_, ?_⟩
  · intro i j p o d hi hj hlt hd he
    have := pair i j p o hi hj hlt
    simp only [calmPair, rowAt, hd, he, dstIs, Bool.and_eq_true, Nat.beq_refl] at this
    simp at this
  · intro i j p o d hi hj hlt hd hl
    have := pair i j p o hi hj hlt
    simp only [calmPair, rowAt, hd, lookMask_bit, hl, Bool.and_eq_true, Bool.not_true, Bool.false_or] at this
    exact this.1.2
  · intro i j p o d hi hj hlt hd hl
    have := pair i j p o hi hj hlt
    simp only [calmPair, rowAt, hd, lookMask_bit, hl, Bool.and_eq_true, Bool.not_true, Bool.false_or] at this
    exact this.2
  · intro j o hj e he hb
    have := one j o hj
    simp only [calmOne, rowAt, Bool.and_eq_true] at this
    exact edgesOk_at this.1 e he hb
  · intro j o d hj hd
    have := one j o hj
    simp only [calmOne, rowAt, hd, lookMask_bit, Bool.and_eq_true, Bool.not_eq_true'] at this
    exact this.2

theorem besideAny_false {r : PRow} : ∀ {l : List PRow}, besideAny r l = false → ∀ p ∈ l, besideOne r p = false := by
  intro l
  induction l with
  | nil => intro _ p hp; cases hp
  | cons x l ih =>
    intro h p hp
    simp only [besideAny, Bool.or_eq_false_iff] at h
    rcases List.mem_cons.1 hp with rfl | hp
    · exact h.1
    · exact ih h.2 p hp
theorem laterOk_at {x : PRow} : ∀ {l : List PRow}, laterOk x l = true → ∀ y ∈ l, x.i ≠ y.i ∧ bitOf x.bef y.i = false ∧ (bitOf y.bef x.i = true ∨ x.fl = true) := by
  intro l
  induction l with
  | nil => intro _ y hy; cases hy
  | cons z l ih =>
    intro h y hy
    simp only [laterOk, Bool.and_eq_true, Bool.not_eq_true', Bool.or_eq_true] at h
    rcases List.mem_cons.1 hy with rfl | hy
    · exact ⟨Nat.ne_of_beq_eq_false h.1.1.1, h.1.1.2, h.1.2⟩
    · exact ih h.2 y hy
theorem orderOk_at : ∀ {L : List PRow}, orderOk L = true → ∀ (k m : Nat) (x y : PRow), k < m → L[k]? = some x → L[m]? = some y → x.i ≠ y.i ∧ bitOf x.bef y.i = false ∧ (bitOf y.bef x.i = true ∨ x.fl = true) := by
  intro L
  induction L with
  | nil => intro _ k m x y _ hx; simp at hx
  | cons z l ih =>
    intro h k m x y hkm hx hy
    simp only [orderOk, Bool.and_eq_true] at h
    cases m with
    | zero => omega
    | succ m =>
      cases k with
      | zero =>
        simp at hx hy
        subst hx
        exact laterOk_at h.1 y (List.mem_of_getElem? hy)
      | succ k => exact ih h.2 k m x y (by omega) (by simpa using hx) (by simpa using hy)
theorem idxMask_at : ∀ {L : List PRow} {j : Nat}, bitOf (idxMask L) j = true → ∃ r ∈ L, r.i = j := by
  intro L
  induction L with
  | nil => intro j h; rw [idxMask, bitOf_zero] at h; cases h
  | cons x l ih =>
    intro j h
    rw [idxMask, bitOf_or, bitOf_pow, Bool.or_eq_true] at h
    rcases h with h | h
    · exact ⟨x, by simp, by simpa using h⟩
    · obtain ⟨r, h1, h2⟩ := ih h
      exact ⟨r, by simp [h1], h2⟩
theorem insRow_mem {am : Nat} {x r : PRow} : ∀ {l : List PRow}, r ∈ insRow am x l → r = x ∨ r ∈ l := by
  intro l
  induction l with
  | nil => intro h; simp [insRow] at h; exact .inl h
  | cons y l ih =>
    intro h
    simp only [insRow] at h
    split at h
    · rcases List.mem_cons.1 h with h | h
      · exact .inl h
      · exact .inr h
    · rcases List.mem_cons.1 h with h | h
      · exact .inr (by simp [h])
      · rcases ih h with h | h
        · exact .inl h
        · exact .inr (by simp [h])
theorem sortRows_mem {am : Nat} {r : PRow} : ∀ {l : List PRow}, r ∈ sortRows am l → r ∈ l := by
  intro l
  induction l with
  | nil => intro h; exact h
  | cons y l ih =>
    intro h
    rcases insRow_mem h with h | h
    · simp [h]
    · simp [ih h]
theorem picked_at {rs : List PRow} : ∀ {L : List PRow}, (picked rs L).length = L.length ∧ ∀ (k : Nat) (r : PRow), L[k]? = some r → (picked rs L)[k]? = some (r.o, looseOf rs r) := by
  intro L
  induction L with
  | nil => exact ⟨rfl, fun k r h => by simp at h⟩
  | cons x l ih =>
    refine ⟨by simp [picked, ih.1], fun k r h => ?_⟩
    cases k with
    | zero => simp at h; subst h; rfl
    | succ k => rw [picked, List.getElem?_cons_succ]; exact ih.2 k r (by simpa using h)

noncomputable def looseAt (ops : Array Oper) (j : Nat) (o : Oper) : Bool := looseOf (opRows ops) (rowAt ops j o)
/-- The plan of a region, read. -/
structure Plan (ops : Array Oper) (L : List Nat) (l : List (Oper × Bool)) : Prop where
  calm : CalmOps ops
  len : l.length = L.length
  at' : ∀ (k x : Nat), L[k]? = some x → ∃ o, ops[x]? = some o ∧ l[k]? = some (o, looseAt ops x o)
  all : ∀ j, j < ops.size → ∃ k : Nat, L[k]? = some j
  ord : ∀ (k m x y : Nat), k < m → L[k]? = some x → L[m]? = some y → x ≠ y ∧ ahd ops y x = false ∧ (ahd ops x y = true ∨ ∀ o, ops[x]? = some o → floatOp o.op = true)
theorem plan_of {ops : Array Oper} {l : List (Oper × Bool)} (h : planOf ops = some l) : ∃ L, Plan ops L l := by
  unfold planOf at h
  split at h
  · rename_i hc
    simp only [Bool.and_eq_true] at hc
    cases h
    have row : ∀ (k : Nat) (r : PRow), (canon ops)[k]? = some r → ∃ o, ops[r.i]? = some o ∧ r = rowAt ops r.i o := fun k r hk => by
      obtain ⟨j, o, ho, rfl⟩ := opRows_mem (sortRows_mem (List.mem_of_getElem? hk))
      exact ⟨o, ho, rfl⟩
    have back : ∀ (k x : Nat), ((canon ops).map (·.i))[k]? = some x → ∃ o, ops[x]? = some o ∧ (canon ops)[k]? = some (rowAt ops x o) := fun k x hx => by
      rw [List.getElem?_map, Option.map_eq_some_iff] at hx
      obtain ⟨r, hr, rfl⟩ := hx
      obtain ⟨o, h1, h2⟩ := row k r hr
      exact ⟨o, h1, by rw [← h2]; exact hr⟩
    refine ⟨(canon ops).map (·.i), calm_of hc.1.1, ?_, fun k x hx => ?_, fun j hj => ?_, fun k m x y hkm hx hy => ?_⟩
    · rw [picked_at.1, List.length_map]
    · obtain ⟨o, h1, h2⟩ := back k x hx
      exact ⟨o, h1, picked_at.2 k _ h2⟩
    · have hm : bitOf (idxMask (canon ops)) j = true := by
        rw [Nat.eq_of_beq_eq_true hc.2, bitOf_eq]
        show (2 ^ ops.size - 1).testBit j = true
        rw [Nat.testBit_two_pow_sub_one]
        simpa using hj
      obtain ⟨r, hr, rfl⟩ := idxMask_at hm
      obtain ⟨k, hk⟩ := List.getElem?_of_mem hr
      exact ⟨k, by rw [List.getElem?_map, hk]; rfl⟩
    · obtain ⟨o, h1, h2⟩ := back k x hx
      obtain ⟨q, h3, h4⟩ := back m y hy
      obtain ⟨g1, g2, g3⟩ := orderOk_at hc.1.2 k m _ _ hkm h2 h4
      refine ⟨g1, g2, ?_⟩
      rcases g3 with g3 | g3
      · exact .inl g3
      · exact .inr fun o' ho' => by rw [h1] at ho'; cases ho'; exact g3
  · cases h
/-- Beside a load, beside something new: whoever acts is loose. -/
theorem loose_of {ops : Array Oper} {i j : Nat} {o p : Oper} (hi : ops[i]? = some p) (hf : floatOp o.op = false) (hp : loadOp p.op = true ∨ allocOp p.op = true)
    (h1 : ahd ops i j = false) (h2 : ahd ops j i = false) : looseAt ops j o = true := by
  unfold looseAt looseOf
  have hfl : (rowAt ops j o).fl = false := hf
  rw [hfl]
  simp only [Bool.not_false, Bool.true_and]
  cases h : besideAny (rowAt ops j o) (opRows ops) with
  | true => rfl
  | false =>
    have h3 := besideAny_false h _ (List.mem_of_getElem? (opRows_at hi))
    have e1 : bitOf (rowAt ops j o).bef (rowAt ops i p).i = false := h1
    have e2 : bitOf (rowAt ops i p).bef (rowAt ops j o).i = false := h2
    have e3 : (rowAt ops i p).sees = true := by
      show (loadOp p.op || allocOp p.op) = true
      rcases hp with hp | hp <;> simp [hp]
    simp only [besideOne] at h3
    rw [e1, e2, e3] at h3
    cases h3
theorem float_tight {ops : Array Oper} {j : Nat} {o : Oper} (hf : floatOp o.op = true) : looseAt ops j o = false := by
  unfold looseAt looseOf
  have hfl : (rowAt ops j o).fl = true := hf
  rw [hfl]; rfl
end Go.Ae
