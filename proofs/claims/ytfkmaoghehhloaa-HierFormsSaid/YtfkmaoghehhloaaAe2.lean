/- How the evaluator's heap stands to the model's world: values, blocks, steps. -/
import Derived.Test.YtfkmaoghehhloaaAe1
import Derived.Laws.Cells
import Derived.Laws.CopyRow
import Derived.Laws.Entries
import Derived.Below
namespace Go.Ae

/-- Where a block lies: the world's block, from which cell on; how many cells it has, how many an element has, how many the world's block has. -/
structure Ent where
  c : Nat
  s : Nat
  ln : Nat
  k : Nat
  cz : Nat

abbrev Mu := Nat → Option Ent

inductive VR (μ : Mu) : Value → Value → Prop
  | gr (v : Value) (h : ground v = true) : VR μ v v
  | ptr {b o : Nat} {e : Ent} (h : μ b = some e) : VR μ (.pointer (some ⟨b, o, none⟩)) (.pointer (some ⟨e.c, e.s + o, none⟩))
  | slice {b o n c c' : Nat} {e : Ent} {a' : Addr} (h : μ b = some e) (hn : n ≤ c') (hl : o + n * e.k ≤ e.ln)
      (hc : (c = unk ∧ e.ln ≤ o + c' * e.k ∧ e.s + o + c' * e.k ≤ e.cz) ∨ (c < unk ∧ c' = c ∧ o + c * e.k ≤ e.ln))
      (ha : a' = ⟨e.c, e.s + o, none⟩ ∨ c' = 0) : VR μ (.slice (some ⟨b, o, none⟩) n c) (.slice (some a') n c')
  | func {f : Fn} {xs ys xs' ys' : Array Value} (h : xs.size = xs'.size) (h2 : ys.size = ys'.size)
      (hx : ∀ (i : Nat) (h1 : i < xs.size) (h2 : i < xs'.size), VR μ xs[i] xs'[i]) (hy : ∀ (i : Nat) (h1 : i < ys.size) (h2 : i < ys'.size), VR μ ys[i] ys'[i]) :
      VR μ (.func f xs ys) (.func f xs' ys')
  | iface {t : TypeId} {v v' : Value} (h : VR μ v v') : VR μ (.iface t v) (.iface t v')
  | agg {xs xs' : Array Value} (h : xs.size = xs'.size) (hx : ∀ (i : Nat) (h1 : i < xs.size) (h2 : i < xs'.size), VR μ xs[i] xs'[i]) : VR μ (.agg xs) (.agg xs')
  | tuple {xs xs' : Array Value} (h : xs.size = xs'.size) (hx : ∀ (i : Nat) (h1 : i < xs.size) (h2 : i < xs'.size), VR μ xs[i] xs'[i]) : VR μ (.tuple xs) (.tuple xs')

def Mu.le (μ μ' : Mu) : Prop := ∀ b e, μ b = some e → μ' b = some e
theorem Mu.le_refl (μ : Mu) : Mu.le μ μ := fun _ _ h => h
theorem Mu.le_trans {a b c : Mu} (h : Mu.le a b) (k : Mu.le b c) : Mu.le a c := fun x e hx => k x e (h x e hx)

theorem VR.mono {μ μ' : Mu} (hm : Mu.le μ μ') {v v' : Value} (h : VR μ v v') : VR μ' v v' := by
  induction h with
  | gr v h => exact .gr v h
  | ptr h => exact .ptr (hm _ _ h)
  | slice h hn hl hc ha => exact .slice (hm _ _ h) hn hl hc ha
  | func h h2 hx hy ihx ihy => exact .func h h2 ihx ihy
  | iface h ih => exact .iface ih
  | agg h hx ih => exact .agg h ih
  | tuple h hx ih => exact .tuple h ih

theorem arr_eq {xs xs' : Array Value} (h : xs.size = xs'.size) (hx : ∀ (i : Nat) (h1 : i < xs.size) (h2 : i < xs'.size), xs'[i] = xs[i]) : xs' = xs :=
  Array.ext h.symm fun i h1 h2 => hx i h2 h1

theorem groundD_of {d : Nat} {xs : Array Value} (h : xs.toList.all (groundD d) = true) (i : Nat) (hi : i < xs.size) : groundD d xs[i] = true := by
  rw [List.all_eq_true] at h
  exact h _ (by simp)

theorem VR.of_ground {μ : Mu} {v v' : Value} (h : VR μ v v') : ∀ d, groundD d v = true → v' = v := by
  induction h with
  | gr v h => intro _ _; rfl
  | ptr h => intro d hd; cases d <;> simp [groundD] at hd
  | slice h hn hl hc ha => intro d hd; cases d <;> simp [groundD] at hd
  | func h h2 hx hy ihx ihy =>
    intro d hd
    cases d with
    | zero => simp [groundD] at hd
    | succ d =>
      simp only [groundD, Bool.and_eq_true] at hd
      rw [arr_eq h fun i h1 h2 => ihx i h1 h2 d (groundD_of hd.1 i h1), arr_eq h2 fun i h1 h2 => ihy i h1 h2 d (groundD_of hd.2 i h1)]
  | iface h ih =>
    intro d hd
    cases d with
    | zero => simp [groundD] at hd
    | succ d => rw [ih d (by simpa [groundD] using hd)]
  | agg h hx ih =>
    intro d hd
    cases d with
    | zero => simp [groundD] at hd
    | succ d => rw [arr_eq h fun i h1 h2 => ih i h1 h2 d (groundD_of (by simpa [groundD] using hd) i h1)]
  | tuple h hx ih =>
    intro d hd
    cases d with
    | zero => simp [groundD] at hd
    | succ d => rw [arr_eq h fun i h1 h2 => ih i h1 h2 d (groundD_of (by simpa [groundD] using hd) i h1)]

theorem VR.ground_eq {μ : Mu} {v v' : Value} (h : VR μ v v') (hg : ground v = true) : v' = v := h.of_ground 4 hg

theorem VR.int {μ : Mu} {k : IntKind} {n : Int} {v' : Value} (h : VR μ (.int k n) v') : v' = .int k n := h.ground_eq rfl
theorem VR.bool {μ : Mu} {t : Bool} {v' : Value} (h : VR μ (.bool t) v') : v' = .bool t := h.ground_eq rfl
theorem VR.string {μ : Mu} {z : ByteArray} {v' : Value} (h : VR μ (.string z) v') : v' = .string z := h.ground_eq rfl
theorem VR.nilSlice {μ : Mu} {n c : Nat} {v' : Value} (h : VR μ (.slice none n c) v') : v' = .slice none n c := h.ground_eq rfl
theorem VR.nilIface {μ : Mu} {v' : Value} (h : VR μ .nilIface v') : v' = .nilIface := h.ground_eq rfl
theorem VR.undef (μ : Mu) : VR μ undef undef := .gr _ rfl

theorem groundD_mono {v : Value} : ∀ {d : Nat}, groundD d v = true → groundD (d + 1) v = true := by
  intro d
  induction d generalizing v with
  | zero =>
    intro h
    cases v with
    | pointer a => cases a <;> simp_all [groundD]
    | slice a n c => cases a <;> simp_all [groundD]
    | _ => simp_all [groundD]
  | succ d ih =>
    intro h
    cases v with
    | func f a b =>
      simp only [groundD, Bool.and_eq_true, List.all_eq_true] at h ⊢
      exact ⟨fun x hx => ih (h.1 x hx), fun x hx => ih (h.2 x hx)⟩
    | iface t v => simp only [groundD] at h ⊢; exact ih h
    | agg cs => simp only [groundD, List.all_eq_true] at h ⊢; exact fun x hx => ih (h x hx)
    | tuple cs => simp only [groundD, List.all_eq_true] at h ⊢; exact fun x hx => ih (h x hx)
    | pointer a => cases a <;> simp_all [groundD]
    | slice a n c => cases a <;> simp_all [groundD]
    | map r => simp_all [groundD]
    | chan r => simp_all [groundD]
    | _ => simp [groundD]

theorem VR.iface_inv {μ : Mu} {t : TypeId} {v x : Value} (h : VR μ (.iface t v) x) : ∃ v', x = .iface t v' ∧ VR μ v v' := by
  cases h with
  | gr _ h => exact ⟨v, rfl, .gr v (groundD_mono (by simpa [ground, groundD] using h))⟩
  | iface h => exact ⟨_, rfl, h⟩
theorem VR.agg_inv {μ : Mu} {xs : Array Value} {x : Value} (h : VR μ (.agg xs) x) : ∃ xs', x = .agg xs' ∧ xs.size = xs'.size ∧ ∀ (i : Nat) (h1 : i < xs.size) (h2 : i < xs'.size), VR μ xs[i] xs'[i] := by
  cases h with
  | gr _ h => exact ⟨xs, rfl, rfl, fun i h1 _ => .gr _ (groundD_mono (groundD_of (d := 3) (by simpa [ground, groundD] using h) i h1))⟩
  | agg h hx => exact ⟨_, rfl, h, hx⟩
theorem VR.tuple_inv {μ : Mu} {xs : Array Value} {x : Value} (h : VR μ (.tuple xs) x) : ∃ xs', x = .tuple xs' ∧ xs.size = xs'.size ∧ ∀ (i : Nat) (h1 : i < xs.size) (h2 : i < xs'.size), VR μ xs[i] xs'[i] := by
  cases h with
  | gr _ h => exact ⟨xs, rfl, rfl, fun i h1 _ => .gr _ (groundD_mono (groundD_of (d := 3) (by simpa [ground, groundD] using h) i h1))⟩
  | tuple h hx => exact ⟨_, rfl, h, hx⟩
theorem VR.func_inv {μ : Mu} {f : Fn} {xs ys : Array Value} {x : Value} (h : VR μ (.func f xs ys) x) : ∃ xs' ys', x = .func f xs' ys' ∧ xs.size = xs'.size ∧ ys.size = ys'.size ∧
    (∀ (i : Nat) (h1 : i < xs.size) (h2 : i < xs'.size), VR μ xs[i] xs'[i]) ∧ (∀ (i : Nat) (h1 : i < ys.size) (h2 : i < ys'.size), VR μ ys[i] ys'[i]) := by
  cases h with
  | gr _ h =>
    simp only [ground, groundD, Bool.and_eq_true] at h
    exact ⟨xs, ys, rfl, rfl, rfl, fun i h1 _ => .gr _ (groundD_mono (groundD_of h.1 i h1)), fun i h1 _ => .gr _ (groundD_mono (groundD_of h.2 i h1))⟩
  | func h h2 hx hy => exact ⟨_, _, rfl, h, h2, hx, hy⟩
theorem VR.ptr_inv {μ : Mu} {b o : Nat} {x : Value} (h : VR μ (.pointer (some ⟨b, o, none⟩)) x) : ∃ e, μ b = some e ∧ x = .pointer (some ⟨e.c, e.s + o, none⟩) := by
  cases h with
  | gr _ h => simp [ground, groundD] at h
  | ptr h => exact ⟨_, h, rfl⟩
theorem VR.slice_inv {μ : Mu} {b o n c : Nat} {x : Value} (h : VR μ (.slice (some ⟨b, o, none⟩) n c) x) : ∃ e a' c', μ b = some e ∧ x = .slice (some a') n c' ∧ n ≤ c' ∧ o + n * e.k ≤ e.ln ∧
    ((c = unk ∧ e.ln ≤ o + c' * e.k ∧ e.s + o + c' * e.k ≤ e.cz) ∨ (c < unk ∧ c' = c ∧ o + c * e.k ≤ e.ln)) ∧ (a' = ⟨e.c, e.s + o, none⟩ ∨ c' = 0) := by
  cases h with
  | gr _ h => simp [ground, groundD] at h
  | slice h hn hl hc ha => exact ⟨_, _, _, h, rfl, hn, hl, hc, ha⟩
theorem VR.one {μ : Mu} {v v' : Value} (h : VR μ v v') : oneC v' = oneC v := by cases h <;> rfl

/-- Lists of values alike. -/
def LR (μ : Mu) (xs xs' : List Value) : Prop := xs.length = xs'.length ∧ ∀ (i : Nat) (v v' : Value), xs[i]? = some v → xs'[i]? = some v' → VR μ v v'
theorem LR.mono {μ μ' : Mu} (hm : Mu.le μ μ') {xs xs' : List Value} (h : LR μ xs xs') : LR μ' xs xs' := ⟨h.1, fun i v v' a b => (h.2 i v v' a b).mono hm⟩
theorem LR.nil (μ : Mu) : LR μ [] [] := ⟨rfl, fun i v v' h => by simp at h⟩
theorem LR.cons {μ : Mu} {v v' : Value} {xs xs' : List Value} (h : VR μ v v') (k : LR μ xs xs') : LR μ (v :: xs) (v' :: xs') :=
  ⟨by simp [k.1], fun i a b ha hb => by
    cases i with
    | zero => simp at ha hb; subst ha; subst hb; exact h
    | succ i => exact k.2 i a b (by simpa using ha) (by simpa using hb)⟩
theorem LR.append {μ : Mu} {xs xs' ys ys' : List Value} (h : LR μ xs xs') (k : LR μ ys ys') : LR μ (xs ++ ys) (xs' ++ ys') :=
  ⟨by simp [h.1, k.1], fun i a b ha hb => by
    by_cases hi : i < xs.length
    · rw [List.getElem?_append_left hi] at ha
      rw [List.getElem?_append_left (h.1 ▸ hi)] at hb
      exact h.2 i a b ha hb
    · rw [List.getElem?_append_right (by omega)] at ha
      rw [List.getElem?_append_right (by have := h.1; omega)] at hb
      exact k.2 (i - xs.length) a b ha (by rw [h.1]; exact hb)⟩
theorem LR.get {μ : Mu} {xs xs' : List Value} (h : LR μ xs xs') {i : Nat} {v : Value} (hv : xs[i]? = some v) : ∃ v', xs'[i]? = some v' ∧ VR μ v v' := by
  have hi : i < xs.length := (List.getElem?_eq_some_iff.1 hv).1
  exact ⟨_, List.getElem?_eq_getElem (h.1 ▸ hi), h.2 i _ _ hv (List.getElem?_eq_getElem (h.1 ▸ hi))⟩
theorem LR.get' {μ : Mu} {xs xs' : List Value} (h : LR μ xs xs') {i : Nat} {v' : Value} (hv : xs'[i]? = some v') : ∃ v, xs[i]? = some v ∧ VR μ v v' := by
  have hi : i < xs'.length := (List.getElem?_eq_some_iff.1 hv).1
  exact ⟨_, List.getElem?_eq_getElem (by have := h.1; omega), h.2 i _ _ (List.getElem?_eq_getElem (by have := h.1; omega)) hv⟩
theorem LR.take {μ : Mu} {xs xs' : List Value} (h : LR μ xs xs') (n : Nat) : LR μ (xs.take n) (xs'.take n) :=
  ⟨by simp [h.1], fun i a b ha hb => by
    rw [List.getElem?_take] at ha hb
    split at ha
    · rename_i hi; rw [if_pos hi] at hb; exact h.2 i a b ha hb
    · cases ha⟩
theorem LR.drop {μ : Mu} {xs xs' : List Value} (h : LR μ xs xs') (n : Nat) : LR μ (xs.drop n) (xs'.drop n) :=
  ⟨by simp [h.1], fun i a b ha hb => by
    rw [List.getElem?_drop] at ha hb
    exact h.2 _ a b ha hb⟩
theorem LR.one {μ : Mu} {xs xs' : List Value} (h : LR μ xs xs') (h1 : xs.all oneC = true) : ∀ v ∈ xs', v.oneCell' = true := by
  intro v' hv
  obtain ⟨i, hi⟩ := List.getElem?_of_mem hv
  obtain ⟨v, hx, hr⟩ := h.get' hi
  rw [List.all_eq_true] at h1
  have := h1 v (List.mem_of_getElem? hx)
  rw [← hr.one] at this
  exact this
theorem LR.ground {μ : Mu} {xs : List Value} (h : ∀ v ∈ xs, ground v = true) : LR μ xs xs :=
  ⟨rfl, fun i v v' a b => by rw [a] at b; cases b; exact .gr v (h v (List.mem_of_getElem? a))⟩
theorem LR.of_arr {μ : Mu} {xs xs' : Array Value} (h : xs.size = xs'.size) (hx : ∀ (i : Nat) (h1 : i < xs.size) (h2 : i < xs'.size), VR μ xs[i] xs'[i]) : LR μ xs.toList xs'.toList :=
  ⟨by simpa using h, fun i v v' a b => by
    simp only [Array.getElem?_toList] at a b
    obtain ⟨h1, rfl⟩ := Array.getElem?_eq_some_iff.1 a
    obtain ⟨h2, rfl⟩ := Array.getElem?_eq_some_iff.1 b
    exact hx i h1 h2⟩
theorem LR.arr {μ : Mu} {xs xs' : List Value} (h : LR μ xs xs') : ∀ (i : Nat) (h1 : i < xs.toArray.size) (h2 : i < xs'.toArray.size), VR μ xs.toArray[i] xs'.toArray[i] := fun i h1 h2 => by
  simp only [List.size_toArray] at h1 h2
  simp only [List.getElem_toArray]
  exact h.2 i _ _ (List.getElem?_eq_getElem h1) (List.getElem?_eq_getElem h2)
theorem LR.agg {μ : Mu} {xs xs' : List Value} (h : LR μ xs xs') : VR μ (.agg xs.toArray) (.agg xs'.toArray) := .agg (by simp [h.1]) h.arr
theorem LR.tuple {μ : Mu} {xs xs' : List Value} (h : LR μ xs xs') : VR μ (.tuple xs.toArray) (.tuple xs'.toArray) := .tuple (by simp [h.1]) h.arr
theorem VR.cells {μ : Mu} {v v' : Value} (h : VR μ v v') : LR μ v.cells.toList v'.cells.toList := by
  have one : ∀ {v v' : Value}, VR μ v v' → v.cells = #[v] → v'.cells = #[v'] → LR μ v.cells.toList v'.cells.toList := fun h a b => by
    rw [a, b]; exact LR.cons h (LR.nil μ)
  cases h with
  | gr v h =>
    cases v with
    | agg cs =>
      have h' : cs.toList.all (groundD 3) = true := by simpa only [Ae.ground, groundD] using h
      exact LR.of_arr (xs := cs) (xs' := cs) rfl fun i h1 _ => .gr _ (groundD_mono (groundD_of (d := 3) h' i h1))
    | _ => exact one (.gr _ h) rfl rfl
  | agg h hx => exact LR.of_arr h hx
  | ptr h => exact one (.ptr h) rfl rfl
  | slice h hn hl hc ha => exact one (.slice h hn hl hc ha) rfl rfl
  | func h h2 hx hy => exact one (.func h h2 hx hy) rfl rfl
  | iface h => exact one (.iface h) rfl rfl
  | tuple h hx => exact one (.tuple h hx) rfl rfl

/-! ### Blocks -/
structure View where
  n : Nat
  t : Nat → Option Blk
  g : Nat → Option Grp
noncomputable def AH.view (H : AH) : View := ⟨H.n, H.t.get, H.g.get⟩

def fzIn (fz : Nat × Nat) (o : Nat) : Bool := decide (fz.1 ≤ o) && decide (o < fz.2)

structure Rep (P : Program) (μ : Mu) (V : View) (w : World) : Prop where
  blk : ∀ b e, μ b = some e → ∃ k arr fz, V.t b = some k ∧ b < V.n ∧ k.grp < V.n ∧ w.heap[e.c]? = some (.cells arr k.elem fz) ∧ arr.size = e.cz ∧ k.cells.length = e.ln ∧
    e.s + e.ln ≤ e.cz ∧ szOf P k.elem = some e.k ∧ (k.ro = false → ∀ o, o < e.cz → fzIn fz o = false)
  cells : ∀ b e k g, μ b = some e → V.t b = some k → V.g k.grp = some g → k.w = g.w → ∀ (j : Nat) (v : Value), k.cells[j]? = some v → ∃ v', w.cell? ⟨e.c, e.s + j, none⟩ = some v' ∧ VR μ v v'
  wle : ∀ b e k g, μ b = some e → V.t b = some k → V.g k.grp = some g → k.w ≤ g.w
  grp : ∀ b1 b2 e1 e2 k1 k2, μ b1 = some e1 → μ b2 = some e2 → V.t b1 = some k1 → V.t b2 = some k2 → e1.c = e2.c → k1.ro = k2.ro ∧ (k1.ro = false → k1.grp = k2.grp)
  tip : ∀ b e et k g, μ b = some e → V.t b = some k → k.ro = false → V.g k.grp = some g → k.w = g.w → μ g.tip = some et → e.c = et.c → e.s + e.ln ≤ et.s + et.ln

/-- From one world to a later one, and from one heap to a later one. -/
structure Step (μ : Mu) (V : View) (w : World) (μ' : Mu) (V' : View) (w' : World) : Prop where
  os : w'.os = w.os
  tape : w'.tape = w.tape
  output : w'.output = w.output
  size : w.heap.size ≤ w'.heap.size
  keep : ∀ c, c < w.heap.size → (∀ b e k, μ b = some e → V.t b = some k → e.c = c → k.ro = true) → w'.heap[c]? = w.heap[c]?
  mono : Mu.le μ μ'
  new : ∀ b e, μ' b = some e → μ b = none → V.n ≤ b ∧ b < V'.n ∧ (w.heap.size ≤ e.c ∨ ∃ b0 e0 k0, μ b0 = some e0 ∧ V.t b0 = some k0 ∧ k0.ro = false ∧ e0.c = e.c)
  n : V.n ≤ V'.n
  ro : ∀ b e k, μ b = some e → V.t b = some k → ∃ k', V'.t b = some k' ∧ k'.ro = k.ro

theorem Step.refl (μ : Mu) (V : View) (w : World) : Step μ V w μ V w :=
  ⟨rfl, rfl, rfl, Nat.le_refl _, fun _ _ _ => rfl, Mu.le_refl μ, fun b e h k => (by rw [h] at k; cases k), Nat.le_refl _, fun b e k _ h => ⟨k, h, rfl⟩⟩
theorem Step.trans {P : Program} {μ μ1 μ2 : Mu} {V V1 V2 : View} {w w1 w2 : World} (hr : Rep P μ V w) (h : Step μ V w μ1 V1 w1) (k : Step μ1 V1 w1 μ2 V2 w2) : Step μ V w μ2 V2 w2 where
  os := k.os.trans h.os
  tape := k.tape.trans h.tape
  output := k.output.trans h.output
  size := Nat.le_trans h.size k.size
  keep := fun c hc hro => by
    refine (k.keep c (Nat.lt_of_lt_of_le hc h.size) fun b e kb hb hk he => ?_).trans (h.keep c hc hro)
    cases hm : μ b with
    | some e0 =>
      have he0 := h.mono b e0 hm
      rw [hb] at he0
      cases he0
      obtain ⟨k0, arr, fz, ht, hn, _⟩ := hr.blk b e hm
      obtain ⟨k1, ht1, hro1⟩ := h.ro b e k0 hm ht
      rw [hk] at ht1
      cases ht1
      rw [hro1]
      exact hro b e k0 hm ht he
    | none =>
      rcases (h.new b e hb hm).2.2 with hge | ⟨b0, e0, k0, h0, ht0, hr0, hc0⟩
      · omega
      · have := hro b0 e0 k0 h0 ht0 (hc0.trans he)
        rw [hr0] at this
        cases this
  mono := Mu.le_trans h.mono k.mono
  new := fun b e hb hm => by
    cases hm1 : μ1 b with
    | some e1 =>
      have := k.mono b e1 hm1
      rw [hb] at this
      cases this
      obtain ⟨h1, h2, h3⟩ := h.new b e hm1 hm
      exact ⟨h1, Nat.lt_of_lt_of_le h2 k.n, h3⟩
    | none =>
      obtain ⟨h1, h2, h3⟩ := k.new b e hb hm1
      refine ⟨Nat.le_trans h.n h1, h2, ?_⟩
      rcases h3 with hge | ⟨b0, e0, k0, h0, ht0, hr0, hc0⟩
      · exact .inl (Nat.le_trans h.size hge)
      · cases hm0 : μ b0 with
        | some e00 =>
          have := h.mono b0 e00 hm0
          rw [h0] at this
          cases this
          obtain ⟨kk, arr, fz, ht, hn, _⟩ := hr.blk b0 e0 hm0
          obtain ⟨k1, ht1, hro1⟩ := h.ro b0 e0 kk hm0 ht
          rw [ht0] at ht1
          cases ht1
          exact .inr ⟨b0, e0, kk, hm0, ht, by rw [← hro1]; exact hr0, hc0⟩
        | none =>
          rcases (h.new b0 e0 h0 hm0).2.2 with hge | ⟨b1, e1, k1, h1', ht1, hr1, hc1⟩
          · exact .inl (hc0 ▸ hge)
          · exact .inr ⟨b1, e1, k1, h1', ht1, hr1, hc1.trans hc0⟩
  n := Nat.le_trans h.n k.n
  ro := fun b e kk hm ht => by
    obtain ⟨k1, ht1, hro1⟩ := h.ro b e kk hm ht
    obtain ⟨k2, ht2, hro2⟩ := k.ro b e k1 (h.mono b e hm) ht1
    exact ⟨k2, ht2, hro2.trans hro1⟩
end Go.Ae
