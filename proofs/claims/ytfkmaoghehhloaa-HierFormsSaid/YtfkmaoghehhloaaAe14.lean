/- Regions that draw their order: whichever order is drawn, it comes to what the plan comes to. -/
import Derived.Test.YtfkmaoghehhloaaAe13
set_option linter.unusedVariables false
set_option linter.unusedSimpArgs false
namespace Go.Ae
variable {P : Program}

theorem count_unl : ∀ (l : List Bool) (i : Nat), l[i]? = some false → (l.set i true).count false + 1 = l.count false := by
  intro l
  induction l with
  | nil => intro i h; simp at h
  | cons x l ih =>
    intro i h
    cases i with
    | zero => simp at h; subst h; simp
    | succ i =>
      have := ih i (by simpa using h)
      simp only [List.set_cons_succ, List.count_cons]
      omega
theorem set_get {listed : Array Bool} {j : Nat} (hj : j < listed.size) (i : Nat) : (listed.setIfInBounds j true).getD i false = if i = j then true else listed.getD i false := by
  by_cases h : i = j
  · subst h; simp [hj]
  · rw [if_neg h]; simp [Array.getElem?_setIfInBounds_ne (Ne.symm h)]

section
variable {call : FuncId → List Value → AH → Option (Value × AH)} {ops : Array Oper} {nt : Nat} {L : List Nat} {F : Nat → Fr} {G : Nat → AH}

/-- A traced plan. -/
structure Tr (P : Program) (call : FuncId → List Value → AH → Option (Value × AH)) (ops : Array Oper) (nt : Nat) (L : List Nat) (F : Nat → Fr) (G : Nat → AH) : Prop where
  calm : CalmOps ops
  all : ∀ j, j < ops.size → ∃ k : Nat, L[k]? = some j
  ord : ∀ (k m x y : Nat), k < m → L[k]? = some x → L[m]? = some y → x ≠ y ∧ ahd ops y x = false ∧ (ahd ops x y = true ∨ ∀ o, ops[x]? = some o → floatOp o.op = true)
  op : ∀ (k x : Nat), L[k]? = some x → ∃ o, ops[x]? = some o
  step : ∀ (k x : Nat) (o : Oper), L[k]? = some x → ops[x]? = some o → OpStep P call ops nt (o, looseAt ops x o) (F k) (G k) (F (k + 1)) (G (k + 1))
  sound : CallSound P call
  wf : WF (G 0)

theorem Tr.inj (tr : Tr P call ops nt L F G) {k m x : Nat} (hk : L[k]? = some x) (hm : L[m]? = some x) : k = m := by
  rcases Nat.lt_trichotomy k m with h | h | h
  · exact absurd rfl (tr.ord k m x x h hk hm).1
  · exact h
  · exact absurd rfl (tr.ord m k x x h hm hk).1
theorem Tr.at (tr : Tr P call ops nt L F G) {k : Nat} (h : k < L.length) : ∃ x o, L[k]? = some x ∧ ops[x]? = some o ∧ OpStep P call ops nt (o, looseAt ops x o) (F k) (G k) (F (k + 1)) (G (k + 1)) := by
  have hx := List.getElem?_eq_getElem h
  obtain ⟨o, ho⟩ := tr.op k _ hx
  exact ⟨_, o, hx, ho, tr.step k _ o hx ho⟩
theorem Tr.grow (tr : Tr P call ops nt L F G) {k : Nat} : ∀ {m : Nat}, k ≤ m → m ≤ L.length → AGrow (G k) (G m) := by
  intro m
  induction m with
  | zero => intro h _; have : k = 0 := by omega
            subst this; exact AGrow.refl _
  | succ m ih =>
    intro h h2
    by_cases e : k = m + 1
    · subst e; exact AGrow.refl _
    · obtain ⟨x, o, _, _, hs⟩ := tr.at (k := m) (by omega)
      exact (ih (by omega) (by omega)).trans (hs.grow tr.sound)
theorem Tr.wfk (tr : Tr P call ops nt L F G) {k : Nat} (h : k ≤ L.length) : WF (G k) := (tr.grow (Nat.zero_le k) h).wf tr.wf
theorem Tr.slot (tr : Tr P call ops nt L F G) (t : Nat) {k : Nat} : ∀ {m : Nat}, k ≤ m → m ≤ L.length → (∀ (q x : Nat) (o : Oper), k ≤ q → q < m → L[q]? = some x → ops[x]? = some o → o.dst ≠ some t) → (F m).at t = (F k).at t := by
  intro m
  induction m with
  | zero => intro h _ _; have : k = 0 := by omega
            subst this; rfl
  | succ m ih =>
    intro h h2 hq
    by_cases e : k = m + 1
    · subst e; rfl
    · obtain ⟨x, o, hx, ho, hs⟩ := tr.at (k := m) (by omega)
      obtain ⟨v, hv⟩ := hs.put
      rw [hv, Fr.put_at, if_neg (hq m x o (by omega) (by omega) hx ho)]
      exact ih (by omega) (by omega) fun q x o h1 h3 => hq q x o h1 (by omega)
theorem Tr.one (tr : Tr P call ops nt L F G) {i j : Nat} {p o : Oper} {t : Nat} (hi : ops[i]? = some p) (hj : ops[j]? = some o) (h1 : p.dst = some t) (h2 : o.dst = some t) : i = j := by
  rcases Nat.lt_trichotomy i j with h | h | h
  · exact absurd h2 (tr.calm.dst i j p o t hi hj h h1)
  · exact h
  · exact absurd h1 (tr.calm.dst j i o p t hj hi h h2)

/-- The next one that acts. -/
theorem Tr.next (tr : Tr P call ops nt L F G) : ∀ (d m : Nat), d + m = L.length → ∃ p, m ≤ p ∧ p ≤ L.length ∧ (∀ (k x : Nat) (o : Oper), m ≤ k → k < p → L[k]? = some x → ops[x]? = some o → floatOp o.op = true) ∧
    (p = L.length ∨ ∃ x o, L[p]? = some x ∧ ops[x]? = some o ∧ floatOp o.op = false) := by
  intro d
  induction d with
  | zero => intro m h; exact ⟨m, Nat.le_refl _, by omega, fun k x o h1 h2 => by omega, .inl (by omega)⟩
  | succ d ih =>
    intro m h
    obtain ⟨x, o, hx, ho, _⟩ := tr.at (k := m) (by omega)
    cases hf : floatOp o.op with
    | false => exact ⟨m, Nat.le_refl _, by omega, fun k x o h1 h2 => by omega, .inr ⟨x, o, hx, ho, hf⟩⟩
    | true =>
      obtain ⟨p, h1, h2, h3, h4⟩ := ih (m + 1) (by omega)
      refine ⟨p, by omega, h2, fun k y q hk1 hk2 hy hq => ?_, h4⟩
      by_cases e : k = m
      · subst e; rw [hx] at hy; cases hy; rw [ho] at hq; cases hq; exact hf
      · exact h3 k y q (by omega) hk2 hy hq
theorem Tr.more (tr : Tr P call ops nt L F G) {m : Nat} : ∀ {p : Nat}, m ≤ p → p ≤ L.length → (∀ (k x : Nat) (o : Oper), m ≤ k → k < p → L[k]? = some x → ops[x]? = some o → floatOp o.op = true) → More (G m) (G p) := by
  intro p
  induction p with
  | zero => intro h _ _; have : m = 0 := by omega
            subst this; exact More.refl _
  | succ p ih =>
    intro h h2 hf
    by_cases e : m = p + 1
    · subst e; exact More.refl _
    · obtain ⟨x, o, hx, ho, hs⟩ := tr.at (k := p) (by omega)
      have hfo := hf p x o (by omega) (by omega) hx ho
      rw [float_tight hfo] at hs
      exact (ih (by omega) (by omega) fun k y q h1 h3 => hf k y q h1 (by omega)).trans (hs.more hfo)

/-- Where we are: what is listed, what the slots hold, how the heap stands. -/
structure Inv (P : Program) (ops : Array Oper) (nt : Nat) (L : List Nat) (F : Nat → Fr) (G : Nat → AH) (μ0 : Mu) (w0 : World) (listed : Array Bool) (a : Act) (w : World) (μ : Mu) (p : Nat) : Prop where
  size : listed.size = ops.size
  closed : Closed ops listed
  le : p ≤ L.length
  before : ∀ (k x : Nat) (o : Oper), k < p → L[k]? = some x → ops[x]? = some o → floatOp o.op = false → listed.getD x false = true
  next : p = L.length ∨ ∃ x o, L[p]? = some x ∧ ops[x]? = some o ∧ floatOp o.op = false ∧ listed.getD x false = false
  rep : Rep P μ (G p).view w
  step : Step μ0 (G 0).view w0 μ (G p).view w
  done : ∀ (x : Nat) (o : Oper) (t : Nat), ops[x]? = some o → o.dst = some t → listed.getD x false = true → VR μ ((F p).at t) (a.tmps.getD t undef)
  rest : ∀ t, (∀ (x : Nat) (o : Oper), ops[x]? = some o → o.dst = some t → listed.getD x false = false) → VR μ ((F 0).at t) (a.tmps.getD t undef)
  new : ∀ (k x : Nat) (o : Oper) (b : Nat), k < p → L[k]? = some x → ops[x]? = some o → floatOp o.op = true → listed.getD x false = false → (G k).n ≤ b → b < (G (k + 1)).n → μ b = none
  tmps : a.tmps.size = nt
  defers : a.defers = []

variable {μ0 μ : Mu} {w0 w : World} {listed : Array Bool} {a : Act} {p : Nat}

/-- What is ahead of a listed one is listed. -/
theorem Inv.ahead (h : Inv P ops nt L F G μ0 w0 listed a w μ p) {i j : Nat} (ha : ahd ops i j = true) (hj : listed.getD j false = true) : listed.getD i false = true :=
  ahead_listed h.closed j i ha fun o ho => h.closed j o ho hj
theorem Inv.pos (tr : Tr P call ops nt L F G) (h : Inv P ops nt L F G μ0 w0 listed a w μ p) {k x : Nat} (hk : L[k]? = some x) (hl : listed.getD x false = true) : k < p := by
  rcases Nat.lt_or_ge k p with hlt | hge
  · exact hlt
  · have hkl := (List.getElem?_eq_some_iff.1 hk).1
    rcases h.next with rfl | ⟨y, o, hy, ho, hf, hu⟩
    · omega
    · by_cases e : k = p
      · subst e; rw [hk] at hy; cases hy; rw [hl] at hu; cases hu
      · rcases (tr.ord p k y x (by omega) hy hk).2.2 with h1 | h1
        · rw [h.ahead h1 hl] at hu; cases hu
        · rw [h1 o ho] at hf; cases hf

/-- What a ready one looks at is as in the plan. -/
theorem Inv.look (tr : Tr P call ops nt L F G) (h : Inv P ops nt L F G μ0 w0 listed a w μ p) {j k : Nat} {o : Oper} (hk : L[k]? = some j) (ho : ops[j]? = some o) (hu : listed.getD j false = false)
    (hr : ∀ e ∈ o.after, Region.binds .any e = true → listed.getD e.on false = true) {t : Nat} (ht : looks ops o t = true) : VR μ ((F k).at t) (a.tmps.getD t undef) := by
  have hkl := (List.getElem?_eq_some_iff.1 hk).1
  have r1 : ∀ i, ahd ops i j = true → listed.getD i false = true := fun i hi =>
    ahead_listed h.closed j i hi fun o' ho' e he hb => by rw [ho] at ho'; cases ho'; exact hr e (by simpa using he) hb
  by_cases hex : ∃ (i : Nat) (q : Oper), ops[i]? = some q ∧ q.dst = some t
  · obtain ⟨i, q, hi, hq⟩ := hex
    have hil : i < ops.size := (Array.getElem?_eq_some_iff.1 hi).1
    obtain ⟨m, hm⟩ := tr.all i hil
    have hml := (List.getElem?_eq_some_iff.1 hm).1
    have only : ∀ (z x : Nat) (o' : Oper), L[z]? = some x → ops[x]? = some o' → o'.dst = some t → z = m := fun z x o' hz hx hd => by
      have := tr.one hx hi hd hq
      subst this
      exact tr.inj hz hm
    rcases Nat.lt_trichotomy i j with hlt | heq | hgt
    · -- ahead in the text
      have hah := tr.calm.use i j q o t hi ho hlt hq ht
      have hl := r1 i hah
      have hmp := h.pos tr hm hl
      have hmk : m < k := by
        rcases Nat.lt_trichotomy m k with h1 | h1 | h1
        · exact h1
        · subst h1; rw [hm] at hk; cases hk; omega
        · have := (tr.ord k m j i h1 hk hm).2.1
          rw [hah] at this; cases this
      have e1 : (F k).at t = (F (m + 1)).at t := tr.slot t (by omega) (by omega) fun z x o' h1 h2 hz hx hd => by have := only z x o' hz hx hd; omega
      have e2 : (F p).at t = (F (m + 1)).at t := tr.slot t (by omega) h.le fun z x o' h1 h2 hz hx hd => by have := only z x o' hz hx hd; omega
      rw [e1, ← e2]
      exact h.done i q t hi hq hl
    · subst heq
      have hown := tr.calm.own i q t hi hq
      rw [hi] at ho
      injection ho with ho'
      rw [← ho', hown] at ht; cases ht
    · have hah := tr.calm.anti j i o q t ho hi hgt hq ht
      have hl : listed.getD i false = false := by
        cases hb : listed.getD i false with
        | false => rfl
        | true => rw [h.ahead hah hb] at hu; cases hu
      have hkm : k < m := by
        rcases Nat.lt_trichotomy k m with h1 | h1 | h1
        · exact h1
        · subst h1; rw [hm] at hk; cases hk; omega
        · have := (tr.ord m k i j h1 hm hk).2.1
          rw [hah] at this; cases this
      have e1 : (F k).at t = (F 0).at t := tr.slot t (Nat.zero_le _) (by omega) fun z x o' h1 h2 hz hx hd => by have := only z x o' hz hx hd; omega
      rw [e1]
      exact h.rest t fun x o' hx hd => by
        have := tr.one hx hi hd hq
        subst this; exact hl
  · have e1 : (F k).at t = (F 0).at t := tr.slot t (Nat.zero_le _) (by omega) fun z x o' h1 h2 hz hx hd => hex ⟨x, o', hx, hd⟩
    rw [e1]
    exact h.rest t fun x o' hx hd => absurd ⟨x, o', hx, hd⟩ hex

theorem looks_guard {ops : Array Oper} {o : Oper} {g d : Nat} {b : Bool} (hg : o.guard = some (g, b)) (hd : (ops[g]?).bind (·.dst) = some d) : looks ops o d = true := by
  unfold looks
  rw [hg]
  simp [hd]

/-- After one that floats. -/
theorem Inv.float (tr : Tr P call ops nt L F G) (h : Inv P ops nt L F G μ0 w0 listed a w μ p) {j k : Nat} {o : Oper} (hk : L[k]? = some j) (ho : ops[j]? = some o) (hkp : k < p)
    (hr : ∀ e ∈ o.after, Region.binds .any e = true → listed.getD e.on false = true) (hd : dstOk nt o = true) {v v' : Value} {μ' : Mu} {w' : World} (hF : F (k + 1) = (F k).put o.dst v) (hv : VR μ' v v')
    (hm : Mu.le μ μ') (hrep : Rep P μ' (G p).view w') (hstep : Step μ0 (G 0).view w0 μ' (G p).view w') (hnew : ∀ b, (b < (G k).n ∨ (G (k + 1)).n ≤ b) → μ' b = μ b) :
    Inv P ops nt L F G μ0 w0 (listed.setIfInBounds j true) (a.put o.dst v') w' μ' p := by
  have hjl : j < listed.size := by rw [h.size]; exact (Array.getElem?_eq_some_iff.1 ho).1
  have hdl : ∀ x, o.dst = some x → x < a.tmps.size := fun x hx => by rw [h.tmps]; exact dstOk_lt hd x hx
  have mono : ∀ i, listed.getD i false = true → (listed.setIfInBounds j true).getD i false = true := fun i hi => by rw [set_get hjl]; split <;> simp [hi]
  have unl : ∀ i, (listed.setIfInBounds j true).getD i false = false → i ≠ j ∧ listed.getD i false = false := fun i hi => by
    rw [set_get hjl] at hi
    split at hi
    · cases hi
    · exact ⟨‹_›, hi⟩
  refine ⟨by simp [h.size], fun i q hi hl e he hb => ?_, h.le, fun m x q h1 h2 h3 h4 => mono x (h.before m x q h1 h2 h3 h4), ?_, hrep, hstep, fun x q t hx hq hl => ?_, fun t ht => ?_, fun m x q b h1 h2 h3 h4 h5 h6 h7 => ?_, by rw [put_size]; exact h.tmps, by rw [put_defers]; exact h.defers⟩
  · rw [set_get hjl] at hl
    split at hl
    · rename_i hij
      subst hij
      rw [hi] at ho; cases ho
      exact mono _ (hr e (by simpa using he) hb)
    · exact mono _ (h.closed i q hi hl e he hb)
  · rcases h.next with hn | ⟨x, q, hx, hq, hf, hu⟩
    · exact .inl hn
    · refine .inr ⟨x, q, hx, hq, hf, ?_⟩
      rw [set_get hjl, if_neg]
      · exact hu
      · rintro rfl
        have := tr.inj hk hx
        omega
  · rw [Act.put_at a o.dst v' t hdl]
    by_cases hxj : x = j
    · subst hxj
      rw [hx] at ho; cases ho
      rw [if_pos hq]
      have e1 : (F p).at t = (F (k + 1)).at t := tr.slot t (by omega) h.le fun z y o' h1 h2 hz hy hd' => by
        have := tr.one hy hx hd' hq
        subst this
        have := tr.inj hz hk
        omega
      rw [e1, hF, Fr.put_at, if_pos hq]
      exact hv
    · rw [if_neg fun e => hxj (tr.one hx ho hq e)]
      rw [set_get hjl, if_neg hxj] at hl
      exact (h.done x q t hx hq hl).mono hm
  · have hnd : o.dst ≠ some t := fun e => by
      have := (unl j (ht j o ho e)).1
      exact this rfl
    rw [Act.put_at a o.dst v' t hdl, if_neg hnd]
    exact (h.rest t fun x q hx hq => (unl x (ht x q hx hq)).2).mono hm
  · obtain ⟨hxj, hu⟩ := unl x h5
    have old := h.new m x q b h1 h2 h3 h4 hu h6 h7
    have hml := (List.getElem?_eq_some_iff.1 h2).1
    have hkl := (List.getElem?_eq_some_iff.1 hk).1
    rw [hnew b, old]
    rcases Nat.lt_trichotomy m k with hlt | heq | hgt
    · have := (tr.grow (k := m + 1) (m := k) (by omega) (by omega)).n
      exact .inl (by omega)
    · subst heq; rw [hk] at h2; cases h2; exact absurd rfl hxj
    · have := (tr.grow (k := k + 1) (m := m) (by omega) (by omega)).n
      exact .inr (by omega)

/-- After one that acts. -/
theorem Inv.act (tr : Tr P call ops nt L F G) (hr0 : Rep P μ0 (G 0).view w0) (h : Inv P ops nt L F G μ0 w0 listed a w μ p) {j : Nat} {o : Oper} (hk : L[p]? = some j) (ho : ops[j]? = some o)
    (hr : ∀ e ∈ o.after, Region.binds .any e = true → listed.getD e.on false = true) (hd : dstOk nt o = true) {v v' : Value} {μ' : Mu} {w' : World} (hF : F (p + 1) = (F p).put o.dst v) (hv : VR μ' v v')
    (hrep : Rep P μ' (G (p + 1)).view w') (hstep : Step μ (G p).view w μ' (G (p + 1)).view w') :
    ∃ p', Inv P ops nt L F G μ0 w0 (listed.setIfInBounds j true) (a.put o.dst v') w' μ' p' := by
  have hjl : j < listed.size := by rw [h.size]; exact (Array.getElem?_eq_some_iff.1 ho).1
  have hpl := (List.getElem?_eq_some_iff.1 hk).1
  have hdl : ∀ x, o.dst = some x → x < a.tmps.size := fun x hx => by rw [h.tmps]; exact dstOk_lt hd x hx
  have mono : ∀ i, listed.getD i false = true → (listed.setIfInBounds j true).getD i false = true := fun i hi => by rw [set_get hjl]; split <;> simp [hi]
  have unl : ∀ i, (listed.setIfInBounds j true).getD i false = false → i ≠ j ∧ listed.getD i false = false := fun i hi => by
    rw [set_get hjl] at hi
    split at hi
    · cases hi
    · exact ⟨‹_›, hi⟩
  obtain ⟨p', n1, n2, n3, n4⟩ := tr.next (L.length - (p + 1)) (p + 1) (by omega)
  have more := tr.more n1 n2 n3
  have tot := Step.trans hr0 h.step hstep
  have later : ∀ {m x : Nat}, L[m]? = some x → (listed.setIfInBounds j true).getD x false = true → m < p + 1 := fun {m x} hm hl => by
    rw [set_get hjl] at hl
    split at hl
    · rename_i e; subst e; have := tr.inj hm hk; omega
    · have := h.pos tr hm hl; omega
  refine ⟨p', by simp [h.size], fun i q hi hl e he hb => ?_, n2, fun m x q h1 h2 h3 h4 => ?_, ?_, more.rep hrep, more.step hr0 hrep tot, fun x q t hx hq hl => ?_, fun t ht => ?_, fun m x q b h1 h2 h3 h4 h5 h6 h7 => ?_, by rw [put_size]; exact h.tmps, by rw [put_defers]; exact h.defers⟩
  · rw [set_get hjl] at hl
    split at hl
    · rename_i hij
      subst hij
      rw [hi] at ho; cases ho
      exact mono _ (hr e (by simpa using he) hb)
    · exact mono _ (h.closed i q hi hl e he hb)
  · rcases Nat.lt_trichotomy m p with hlt | heq | hgt
    · exact mono _ (h.before m x q hlt h2 h3 h4)
    · subst heq; rw [hk] at h2; cases h2; rw [set_get hjl, if_pos rfl]
    · rw [n3 m x q (by omega) h1 h2 h3] at h4; cases h4
  · rcases n4 with hn | ⟨x, q, hx, hq, hf⟩
    · exact .inl hn
    · refine .inr ⟨x, q, hx, hq, hf, ?_⟩
      cases hb : (listed.setIfInBounds j true).getD x false with
      | false => rfl
      | true => have := later hx hb; omega
  · have hxl : x < ops.size := (Array.getElem?_eq_some_iff.1 hx).1
    obtain ⟨m, hm⟩ := tr.all x hxl
    have hmp := later hm hl
    have e1 : (F p').at t = (F (p + 1)).at t := tr.slot t (by omega) n2 fun z y o' h1 h2 hz hy hd' => by
      have := tr.one hy hx hd' hq
      subst this
      have := tr.inj hz hm
      omega
    rw [e1, Act.put_at a o.dst v' t hdl, hF, Fr.put_at]
    by_cases hxj : x = j
    · subst hxj
      rw [hx] at ho; cases ho
      rw [if_pos hq, if_pos hq]
      exact hv
    · rw [if_neg fun e => hxj (tr.one hx ho hq e), if_neg fun e => hxj (tr.one hx ho hq e)]
      rw [set_get hjl, if_neg hxj] at hl
      exact (h.done x q t hx hq hl).mono hstep.mono
  · have hnd : o.dst ≠ some t := fun e => by
      have := (unl j (ht j o ho e)).1
      exact this rfl
    rw [Act.put_at a o.dst v' t hdl, if_neg hnd]
    exact (h.rest t fun x q hx hq => (unl x (ht x q hx hq)).2).mono hstep.mono
  · obtain ⟨hxj, hu⟩ := unl x h5
    have hml := (List.getElem?_eq_some_iff.1 h2).1
    rcases Nat.lt_trichotomy m p with hlt | heq | hgt
    · have old := h.new m x q b hlt h2 h3 h4 hu h6 h7
      have hb : b < (G p).n := Nat.lt_of_lt_of_le h7 (tr.grow (k := m + 1) (m := p) (by omega) (by omega)).n
      cases hμ : μ' b with
      | none => rfl
      | some e => exact absurd hb (Nat.not_lt.2 (hstep.new b e hμ old).1)
    · subst heq; rw [hk] at h2; cases h2; exact absurd rfl hxj
    · have : (G (p + 1)).n ≤ b := Nat.le_trans (tr.grow (k := p + 1) (m := m) (by omega) (by omega)).n h6
      cases hμ : μ' b with
      | none => rfl
      | some e => exact absurd (hrep.lt hμ) (Nat.not_lt.2 this)
end
end Go.Ae
