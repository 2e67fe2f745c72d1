/- An evaluator of the model's code over a heap of its own, in which the order of a region is the text's and an append makes a block: definitions alone. -/
import Derived.Orders
import Derived.Calls
import Derived.KernelRfl
import Derived.Laws.Sem
import Derived.Laws.BytesArg
namespace Go.Ae

/-- A table from numbers. -/
inductive T (α : Type) where
  | nil
  | node (l : T α) (v : Option α) (r : T α)

namespace T
variable {α : Type}
noncomputable def get (t : T α) : Nat → Option α :=
  T.rec (motive := fun _ => Nat → Option α) (fun _ => none)
    (fun _ v _ gl gr k => Bool.rec (Bool.rec (gr (Nat.sub (Nat.div k 2) 1)) (gl (Nat.div k 2)) (Nat.beq (Nat.mod k 2) 1)) v (Nat.beq k 0)) t
noncomputable def setF (a : α) (f : Nat) : T α → Nat → T α :=
  Nat.rec (motive := fun _ => T α → Nat → T α) (fun t _ => t) (fun _ ih t k =>
    T.rec (motive := fun _ => T α)
      (Bool.rec (Bool.rec (.node .nil none (ih .nil (Nat.sub (Nat.div k 2) 1))) (.node (ih .nil (Nat.div k 2)) none .nil) (Nat.beq (Nat.mod k 2) 1)) (.node .nil (some a) .nil) (Nat.beq k 0))
      (fun l v r _ _ => Bool.rec (Bool.rec (.node l v (ih r (Nat.sub (Nat.div k 2) 1))) (.node (ih l (Nat.div k 2)) v r) (Nat.beq (Nat.mod k 2) 1)) (.node l (some a) r) (Nat.beq k 0)) t) f
theorem bool_rec {β : Type} (x y z : β) (k : Nat) : (Bool.rec (Bool.rec x y (Nat.beq (Nat.mod k 2) 1)) z (Nat.beq k 0) : β) = if k = 0 then z else if k % 2 = 1 then y else x := by
  cases h : Nat.beq k 0 with
  | true => rw [if_pos (Nat.eq_of_beq_eq_true h)]
  | false =>
    rw [if_neg (Nat.ne_of_beq_eq_false h)]
    show (Bool.rec x y (Nat.beq (k % 2) 1) : β) = _
    cases h : Nat.beq (k % 2) 1 with
    | true => rw [if_pos (Nat.eq_of_beq_eq_true h)]
    | false => rw [if_neg (Nat.ne_of_beq_eq_false h)]
theorem get_nil (k : Nat) : (T.nil : T α).get k = none := rfl
theorem get_node (l : T α) (v : Option α) (r : T α) (k : Nat) : (T.node l v r).get k = if k = 0 then v else if k % 2 = 1 then l.get (k / 2) else r.get (k / 2 - 1) := bool_rec _ _ _ k
theorem setF_nil (a : α) (f k : Nat) : setF a (f + 1) .nil k = if k = 0 then .node .nil (some a) .nil else if k % 2 = 1 then .node (setF a f .nil (k / 2)) none .nil else .node .nil none (setF a f .nil (k / 2 - 1)) := bool_rec _ _ _ k
theorem setF_node (a : α) (f k : Nat) (l : T α) (v : Option α) (r : T α) : setF a (f + 1) (.node l v r) k = if k = 0 then .node l (some a) r else if k % 2 = 1 then .node (setF a f l (k / 2)) v r else .node l v (setF a f r (k / 2 - 1)) := bool_rec _ _ _ k
noncomputable def set (t : T α) (k : Nat) (a : α) : T α := setF a (k + 1) t k

theorem get_setF (a : α) : ∀ (f : Nat) (t : T α) (k j : Nat), k < f → (setF a f t k).get j = if j = k then some a else t.get j := by
  intro f
  induction f with
  | zero => intro t k j h; omega
  | succ f ih =>
    intro t k j h
    cases t with
    | nil =>
      rw [setF_nil]
      by_cases k0 : k = 0
      · subst k0
        simp only [if_true, get_node]
        by_cases j0 : j = 0 <;> simp [j0, get_nil]
      · by_cases k1 : k % 2 = 1
        · simp only [k0, k1, if_true, if_false, get_node]
          by_cases j0 : j = 0
          · simp [j0, Ne.symm k0, get_nil]
          · by_cases j1 : j % 2 = 1
            · simp only [j0, j1, if_true, if_false]
              rw [ih _ _ _ (by omega)]
              by_cases e : j = k
              · subst e; simp
              · have : ¬ (j / 2 = k / 2) := by omega
                simp [e, this, get_nil]
            · have : j ≠ k := fun e => j1 (e ▸ k1)
              simp [j0, j1, this, get_nil]
        · simp only [k0, k1, if_false, get_node]
          by_cases j0 : j = 0
          · simp [j0, Ne.symm k0, get_nil]
          · by_cases j1 : j % 2 = 1
            · have : j ≠ k := fun e => k1 (e ▸ j1)
              simp [j0, j1, this, get_nil]
            · simp only [j0, j1, if_false]
              rw [ih _ _ _ (by omega)]
              by_cases e : j = k
              · subst e; simp
              · have : ¬ (j / 2 - 1 = k / 2 - 1) := by omega
                simp [e, this, get_nil]
    | node l v r =>
      rw [setF_node]
      by_cases k0 : k = 0
      · subst k0
        simp only [if_true, get_node]
        by_cases j0 : j = 0 <;> simp [j0]
      · by_cases k1 : k % 2 = 1
        · simp only [k0, k1, if_true, if_false, get_node]
          by_cases j0 : j = 0
          · simp [j0, Ne.symm k0, get_nil]
          · by_cases j1 : j % 2 = 1
            · simp only [j0, j1, if_true, if_false]
              rw [ih _ _ _ (by omega)]
              by_cases e : j = k
              · subst e; simp
              · have : ¬ (j / 2 = k / 2) := by omega
                simp [e, this, get_nil]
            · have : j ≠ k := fun e => j1 (e ▸ k1)
              simp [j0, j1, this, get_nil]
        · simp only [k0, k1, if_false, get_node]
          by_cases j0 : j = 0
          · simp [j0, Ne.symm k0, get_nil]
          · by_cases j1 : j % 2 = 1
            · have : j ≠ k := fun e => k1 (e ▸ j1)
              simp [j0, j1, this, get_nil]
            · simp only [j0, j1, if_false]
              rw [ih _ _ _ (by omega)]
              by_cases e : j = k
              · subst e; simp
              · have : ¬ (j / 2 - 1 = k / 2 - 1) := by omega
                simp [e, this, get_nil]
theorem get_set (t : T α) (k : Nat) (a : α) (j : Nat) : (t.set k a).get j = if j = k then some a else t.get j := get_setF a _ t k j (by omega)
end T

noncomputable section
/-- What an address of unknown capacity bears for its capacity. -/
def unk : Nat := 9223372036854775808

structure Blk where
  cells : List Value
  elem : TypeId
  grp : Nat
  w : Nat
  ro : Bool

structure Grp where
  tip : Nat
  w : Nat

/-- The heap: n blocks; of each what it holds; of each group (blocks that may lie in one) the last one, and how often it was written; low: the least group that was written. -/
structure AH where
  n : Nat
  t : T Blk
  g : T Grp
  low : Nat

namespace AH
/-- A block that may be read. -/
def rd (H : AH) (b : Nat) : Option Blk :=
  match H.t.get b with
  | some k => match H.g.get k.grp with
    | some g => if k.w = g.w then some k else none
    | none => none
  | none => none
def push (H : AH) (cells : List Value) (elem : TypeId) : AH :=
  { n := H.n + 1, t := H.t.set H.n { cells, elem, grp := H.n, w := 0, ro := false }, g := H.g.set H.n { tip := H.n, w := 0 }, low := H.low }
/-- A block is written. -/
def wr (H : AH) (b : Nat) (cells : List Value) : Option AH :=
  match H.t.get b with
  | some k => match H.g.get k.grp with
    | some g =>
      if k.ro = false ∧ g.tip = b ∧ k.w = g.w ∧ cells.length = k.cells.length then
        some { H with t := H.t.set b { k with cells, w := g.w + 1 }, g := H.g.set k.grp { g with w := g.w + 1 }, low := Nat.min H.low k.grp }
      else none
    | none => none
  | none => none
/-- Something stands behind a block now: in it, or in another one. -/
def ext (H : AH) (b : Nat) (cells : List Value) : Option AH :=
  match H.t.get b with
  | some k => match H.g.get k.grp with
    | some g =>
      if k.ro = false ∧ g.tip = b ∧ k.w = g.w ∧ b < H.n then
        some { n := H.n + 1, t := H.t.set H.n { k with cells }, g := H.g.set k.grp { g with tip := H.n }, low := Nat.min H.low k.grp }
      else none
    | none => none
  | none => none
end AH

/-- No address in it. -/
def groundD : Nat → Value → Bool
  | _, .bool _ | _, .int .. | _, .float .. | _, .complex .. | _, .string _ | _, .pointer none | _, .slice none _ _ | _, .nilFunc | _, .nilIface => true
  | d + 1, .func _ a b => a.toList.all (groundD d) && b.toList.all (groundD d)
  | d + 1, .iface _ v => groundD d v
  | d + 1, .agg cs => cs.toList.all (groundD d)
  | d + 1, .tuple cs => cs.toList.all (groundD d)
  | _, _ => false
def ground (v : Value) : Bool := groundD 4 v

/-- What runs without the world. -/
def pureRun {α : Type} (P : Program) : Sem α → Option α
  | .pure a => some a
  | .program k => pureRun P (k P)
  | .mark _ k => pureRun P k
  | _ => none

abbrev Fr := T Value
def Fr.at (fr : Fr) (t : Nat) : Value := match T.get fr t with | some v => v | none => undef
/-- An operand's value, whatever it is. -/
def Fr.evD (fr : Fr) : Operand → Value
  | .tmp t => fr.at t
  | .const v => v
  | .func f => .func (.func f) #[] #[]
  | .global _ => undef
/-- An operand's value, if it is one that we know of. -/
def Fr.ev (fr : Fr) : Operand → Option Value
  | .tmp t => some (fr.at t)
  | .const v => if ground v then some v else none
  | .func f => some (.func (.func f) #[] #[])
  | .global _ => none
def Fr.evs (fr : Fr) : List Operand → Option (List Value)
  | [] => some []
  | x :: xs => match fr.ev x, fr.evs xs with
    | some v, some vs => some (v :: vs)
    | _, _ => none
def Fr.evo (fr : Fr) : Option Operand → Option (Option Value)
  | none => some none
  | some x => match fr.ev x with | some v => some (some v) | none => none
def Fr.put (fr : Fr) (d : Option Tmp) (v : Value) : Fr := match d with | some d => T.set fr d v | none => fr

def szOf (P : Program) (t : TypeId) : Option Nat := (P.info? t).map (·.size)
def byOf (P : Program) (t : TypeId) : Option Nat := (P.info? t).map (·.bytes)
def zeroOf (P : Program) (t : TypeId) : Option Value := match P.info? t with | some i => (match i.zero with | some z => if ground z then some z else none | none => none) | none => none
def isAggT (P : Program) (t : TypeId) : Option Bool :=
  match P.underlying t with
  | some (.struct _) | some (.array _ _) => some true
  | some _ => some false
  | none => none
def elemT (P : Program) (t : TypeId) : Option TypeId := match P.underlying t with | some (.slice e) => some e | _ => none
def fieldsT (P : Program) (t : TypeId) : Option (Array Field) := match P.underlying t with | some (.struct fs) => some fs | _ => none
def oneC (v : Value) : Bool := v.oneCell'
def isU8 (P : Program) (t : TypeId) : Bool := match P.underlying t with | some (.int .u8) => true | _ => false
def natOf : Value → Option Nat
  | .int _ n => if 0 ≤ n then some n.toNat else none
  | _ => none
def natOfo : Option Value → Nat → Option Nat
  | some v, _ => natOf v
  | none, d => some d

section
variable (P : Program)

/-- Is an operand without addresses? -/
def gnd (fr : Fr) (x : Operand) : Bool := match fr.ev x with | some v => ground v | none => false
/-- Of operands without addresses: as the model has it. -/
def evPlain (fr : Fr) (o : Oper) : Option Value :=
  if o.op.operands.toList.all (gnd fr) then
    match pureRun P (execOp fr.evD o) with
    | some (.value v) => if ground v then some v else none
    | _ => none
  else none

def evLoad (H : AH) (t : TypeId) : Value → Option Value
  | .pointer (some ⟨b, o, none⟩) =>
    match H.rd b, szOf P t, isAggT P t with
    | some k, some s, some true => if o + s ≤ k.cells.length then some (.agg ((k.cells.drop o).take s).toArray) else none
    | some k, some _, some false => k.cells[o]?
    | _, _, _ => none
  | _ => none

/-- xs with ys at place i. -/
def splice {α : Type} (xs : List α) (i : Nat) (ys : List α) : List α := xs.take i ++ ys ++ xs.drop (i + ys.length)

def evStore (H : AH) (t : TypeId) (v : Value) : Value → Option AH
  | .pointer (some ⟨b, o, none⟩) =>
    match H.rd b, szOf P t with
    | some k, some s =>
      if v.cells.toList.length = s ∧ v.cells.toList.all oneC = true ∧ o + s ≤ k.cells.length then H.wr b (splice k.cells o v.cells.toList) else none
    | _, _ => none
  | _ => none

/-- How far a slice may be cut. -/
def topOf (k : Blk) (o s c : Nat) : Nat := if c = unk then (k.cells.length - o) / s else c
def capOf (c l : Nat) : Nat := if c = unk then unk else c - l
/-- s[l:h:m] of a slice. -/
def evSlice (H : AH) (e : TypeId) (x : Value) (lo hi mx : Option Value) : Option Value :=
  match szOf P e with
  | none => none
  | some s =>
    match x with
    | .slice none n c =>
      match natOfo lo 0, natOfo hi 0, mx with
      | some l, some h, none => if n = 0 ∧ c = 0 ∧ l = 0 ∧ h = 0 then some (.slice none 0 0) else none
      | _, _, _ => none
    | .slice (some ⟨b, o, none⟩) n c =>
      match H.t.get b, natOfo lo 0, natOfo hi n with
      | some k, some l, some h =>
        if s = 0 ∨ k.elem ≠ e then none else
        match mx with
        | some v => match natOf v with
          | some m => if hi.isSome = true ∧ l ≤ h ∧ h ≤ m ∧ m ≤ topOf k o s c ∧ m < unk then some (.slice (some ⟨b, o + l * s, none⟩) (h - l) (m - l)) else none
          | none => none
        | none => if l ≤ h ∧ h ≤ topOf k o s c then some (.slice (some ⟨b, o + l * s, none⟩) (h - l) (capOf c l)) else none
      | _, _, _ => none
    | _ => none

/-- The cells of the elements of a slice, of a string. -/
def evCells (H : AH) (s : Nat) : Value → Option (Nat × List Value)
  | .slice none n _ => if n = 0 then some (0, []) else none
  | .slice (some ⟨b, o, none⟩) n _ =>
    match H.rd b with
    | some k => if o + n * s ≤ k.cells.length then some (n, (k.cells.drop o).take (n * s)) else none
    | none => none
  | .string z => if s = 1 then some (z.size, z.data.toList.map fun b => .int .u8 b.toNat) else none
  | _ => none

def zeroCellsL (z : List Value) : Nat → List Value
  | 0 => []
  | n + 1 => z ++ zeroCellsL z n

/-- What an append appends: how many, their cells. -/
def evNew (H : AH) (e : TypeId) (s : Nat) (y : Value) (zeros : Bool) : Option (Nat × List Value) :=
  if zeros then
    match natOf y, zeroOf P e with
    | some n, some z => if n ≠ 0 ∧ n ≤ 1048576 then some (n, zeroCellsL z.cells.toList n) else none
    | _, _ => none
  else evCells H s y

def evAppendTo (H : AH) (e : TypeId) (s : Nat) (x : Value) (m : Nat) (new : List Value) : Option (Value × AH) :=
  match x with
  | .slice none n c =>
    if n = 0 ∧ c = 0 ∧ m ≤ 1073741824 then
      if m = 0 then some (.slice none 0 0, H)
      else some (.slice (some ⟨H.n, 0, none⟩) m unk, H.push new e)
    else none
  | .slice (some ⟨b, o, none⟩) n c =>
    match H.rd b with
    | some k =>
      if k.elem = e ∧ n + m ≤ 1073741824 ∧ o + n * s ≤ k.cells.length then
        if c ≠ unk ∧ c < n + m then some (.slice (some ⟨H.n, 0, none⟩) (n + m) unk, H.push ((k.cells.drop o).take (n * s) ++ new) e)
        else if m = 0 then some (.slice (some ⟨b, o, none⟩) n c, H)
        else if o + (n + m) * s ≤ k.cells.length then
          match H.wr b (splice k.cells (o + n * s) new) with
          | some H' => some (.slice (some ⟨b, o, none⟩) (n + m) c, H')
          | none => none
        else if c = unk ∧ o + n * s = k.cells.length then
          match H.ext b ((k.cells.drop o).take (n * s) ++ new) with
          | some H' => some (.slice (some ⟨H.n, 0, none⟩) (n + m) unk, H')
          | none => none
        else none
      else none
    | none => none
  | _ => none

def evAppend (H : AH) (t : TypeId) (x y : Value) (zeros : Bool) : Option (Value × AH) :=
  match elemT P t with
  | some e => match szOf P e, byOf P e, zeroOf P e with
    | some s, some by_, some z => match evNew P H e s y zeros with
      | some (m, new) =>
        if s ≠ 0 ∧ by_ ≠ 0 ∧ by_ ≤ 65536 ∧ z.cells.toList.length = s ∧ new.length = m * s ∧ new.all oneC = true then evAppendTo H e s x m new else none
      | none => none
    | _, _, _ => none
  | none => none

def evClear (H : AH) (t : TypeId) : Value → Option AH
  | .slice none _ _ => some H
  | .slice (some ⟨b, o, none⟩) n _ =>
    if n = 0 then some H else
    match elemT P t with
    | some e => match szOf P e, zeroOf P e, H.rd b with
      | some s, some z, some k =>
        if z.cells.toList.length = s ∧ z.cells.toList.all oneC = true ∧ o + n * s ≤ k.cells.length then H.wr b (splice k.cells o (zeroCellsL z.cells.toList n)) else none
      | _, _, _ => none
    | none => none
  | _ => none

/-- Two numbers. -/
def fastInt (op : BinOp) (k : IntKind) (a b : Int) : Option Value :=
  match op with
  | .add => some (.int k (k.wrap (a + b)))
  | .sub => some (.int k (k.wrap (a - b)))
  | .mul => some (.int k (k.wrap (a * b)))
  | .eql => some (.bool (a == b))
  | .neq => some (.bool (a != b))
  | .lss => some (.bool (decide (a < b)))
  | .leq => some (.bool (decide (a ≤ b)))
  | .gtr => some (.bool (decide (a > b)))
  | .geq => some (.bool (decide (a ≥ b)))
  | _ => none
def nilSlice (op : BinOp) : Option Value :=
  match op with
  | .eql => some (.bool false)
  | .neq => some (.bool true)
  | _ => none
def evBin (fr : Fr) (o : Oper) (op : BinOp) (t : TypeId) (x y : Operand) : Option Value :=
  match fr.ev x, fr.ev y with
  | some (.int k a), some (.int k' b) => match (if k = k' then fastInt op k a b else none) with
    | some v => some v
    | none => evPlain P fr o
  | some (.slice (some _) _ _), some (.slice none _ _) => match elemT P t with
    | some _ => nilSlice op
    | none => none
  | some _, some _ => evPlain P fr o
  | _, _ => none

def evAlloc (H : AH) (t : TypeId) : Option (Value × AH) :=
  match zeroOf P t with
  | some z => if z.cells.toList.all oneC = true then some (.pointer (some ⟨H.n, 0, none⟩), H.push z.cells.toList t) else none
  | none => none
def evBox (H : AH) (t : TypeId) (v : Value) : Option (Value × AH) :=
  match szOf P t with
  | some _ => if v.cells.toList.all oneC = true then some (.pointer (some ⟨H.n, 0, none⟩), H.push v.cells.toList t) else none
  | none => none
/-- Parts with their values. -/
def evParts (fr : Fr) : List (Nat × Operand) → Option (List (Nat × Value))
  | [] => some []
  | (i, x) :: l => match fr.ev x, evParts fr l with
    | some v, some vs => some ((i, v) :: vs)
    | _, _ => none
def evBuild (t : TypeId) (parts : List (Nat × Value)) : Option Value :=
  match zeroOf P t, fieldsT P t with
  | some z, some fs => match (fs.toList.mapM fun f => (szOf P f.type).map fun s => (f.offset, s)) with
    | some places => match Instr.fill (places[·]?) z.cells parts with
      | some cells => some (.agg cells)
      | none => none
    | none => none
  | _, _ => none
def evBuildSlice (H : AH) (t : TypeId) (len : Nat) (parts : List (Nat × Value)) : Option (Value × AH) :=
  match elemT P t with
  | some e => match szOf P e, zeroOf P e with
    | some s, some z =>
      if s ≠ 0 ∧ z.cells.toList.length = s ∧ len * s ≤ 16777216 then
        match Instr.fill (fun i => some (i * s, s)) (zeroCellsL z.cells.toList len).toArray parts with
        | some cells => if cells.toList.all oneC = true then some (.slice (some ⟨H.n, 0, none⟩) len len, H.push cells.toList e) else none
        | none => none
      else none
    | _, _ => none
  | none => none
def evMakeSlice (H : AH) (t : TypeId) (l c : Value) : Option (Value × AH) :=
  match elemT P t with
  | some e => match szOf P e, byOf P e, zeroOf P e, natOf l, natOf c with
    | some s, some by_, some z, some l, some c =>
      if s ≠ 0 ∧ l ≤ c ∧ c ≤ 1048576 ∧ by_ ≤ 65536 ∧ z.cells.toList.length = s ∧ z.cells.toList.all oneC = true then some (.slice (some ⟨H.n, 0, none⟩) l c, H.push (zeroCellsL z.cells.toList c) e) else none
    | _, _, _, _, _ => none
  | none => none
def evFieldAddr (t : TypeId) (x : Value) (f : Nat) : Option Value :=
  match x with
  | .pointer (some ⟨b, o, none⟩) => match fieldsT P t with
    | some fs => match fs.toList[f]? with
      | some f => match szOf P f.type with
        | some s => if s = 0 then none else some (.pointer (some ⟨b, o + f.offset, none⟩))
        | none => none
      | none => none
    | none => none
  | _ => none
def evField (t : TypeId) (x : Value) (f : Nat) : Option Value :=
  match x with
  | .agg cs => match fieldsT P t with
    | some fs => match fs.toList[f]? with
      | some f => match szOf P f.type, isAggT P f.type with
        | some s, some true => if f.offset + s ≤ cs.toList.length then some (.agg ((cs.toList.drop f.offset).take s).toArray) else none
        | some _, some false => cs.toList[f.offset]?
        | _, _ => none
      | none => none
    | none => none
  | _ => none
def evIndexAddr (t : TypeId) (x i : Value) : Option Value :=
  match natOf i with
  | some i => match P.underlying t, x with
    | some (.slice e), .slice (some ⟨b, o, none⟩) n _ => match szOf P e with
      | some s => if i < n then some (.pointer (some ⟨b, o + i * s, none⟩)) else none
      | none => none
    | some (.array n e), .pointer (some ⟨b, o, none⟩) => match szOf P e with
      | some s => if i < n then some (.pointer (some ⟨b, o + i * s, none⟩)) else none
      | none => none
    | _, _ => none
  | none => none
def evExtract (x : Value) (i : Nat) : Option Value :=
  match x with
  | .tuple vs => vs.toList[i]?
  | _ => none
def numsOf : List Value → Option (List Int)
  | [] => some []
  | .int .u8 n :: vs => match numsOf vs with
    | some bs => some (n :: bs)
    | none => none
  | _ => none
/-- Bytes as a string. -/
def evText (H : AH) (src dst : TypeId) (x : Value) : Option Value :=
  match elemT P src, P.underlying dst, evCells H 1 x with
  | some e, some .string, some (_, cs) => if isU8 P e then (match numsOf cs with | some ns => some (.string (strOfNums ns)) | none => none) else none
  | _, _, _ => none
/-- A string as bytes. -/
def evBytes (H : AH) (src dst : TypeId) (z : ByteArray) : Option (Value × AH) :=
  match P.underlying src, elemT P dst with
  | some .string, some e => if isU8 P e && decide (z.size ≤ 1073741824) && szOf P e == some 1 then some (.slice (some ⟨H.n, 0, none⟩) z.size unk, H.push (z.data.toList.map fun b => .int .u8 b.toNat) e) else none
  | _, _ => none
def evConvert (fr : Fr) (o : Oper) (H : AH) (src dst : TypeId) (x : Operand) : Option (Value × AH) :=
  match fr.ev x with
  | some (.slice a n c) => match evText P H src dst (.slice a n c) with | some v => some (v, H) | none => none
  | some (.string z) => match elemT P dst with
    | some _ => evBytes P H src dst z
    | none => match evPlain P fr o with | some v => some (v, H) | none => none
  | some _ => match evPlain P fr o with | some v => some (v, H) | none => none
  | none => none
def evAssert (x : Value) (asserted : TypeId) : Option Value :=
  match P.underlying asserted, x with
  | some (.interface _), _ => none
  | some _, .iface t v => if t = asserted then some (.tuple #[v, .bool true]) else (match zeroOf P asserted with | some z => some (.tuple #[z, .bool false]) | none => none)
  | some _, .nilIface => match zeroOf P asserted with | some z => some (.tuple #[z, .bool false]) | none => none
  | _, _ => none
def evMakeInterface (t : TypeId) (x : Value) : Option Value :=
  match P.underlying t with
  | some (.interface _) | none => none
  | _ => some (.iface t x)
def evLen (t : TypeId) (x : Value) : Option Value :=
  match P.underlying t, x with
  | some (.slice _), .slice _ n _ => some (.int .i64 n)
  | some .string, .string z => some (.int .i64 z.size)
  | some (.array n _), _ => some (.int .i64 n)
  | _, _ => none
def evCap (t : TypeId) (x : Value) : Option Value :=
  match P.underlying t, x with
  | some (.slice _), .slice _ _ c => if c = unk then none else some (.int .i64 c)
  | _, _ => none
def evBuiltin (fr : Fr) (o : Oper) (H : AH) (b : Builtin) (argTypes : List TypeId) (args : List Value) : Option (Value × AH) :=
  match b, argTypes, args with
  | .len, t :: _, x :: _ => match evLen P t x with | some v => some (v, H) | none => none
  | .cap, t :: _, x :: _ => match evCap P t x with | some v => some (v, H) | none => none
  | .append, t :: u :: _, [x, y] => match P.underlying u with
    | some (.int _) => evAppend P H t x y true
    | some (.slice _) => evAppend P H t x y false
    | some .string => evAppend P H t x y false
    | _ => none
  | .clear, t :: _, x :: _ => match (if (P.underlying t).isSome then evClear P H t x else none) with | some H' => some (.tuple #[], H') | none => none
  | .max, _, _ => match evPlain P fr o with | some v => some (v, H) | none => none
  | .min, _, _ => match evPlain P fr o with | some v => some (v, H) | none => none
  | _, _, _ => none
def evPick (c a b : Value) : Option Value :=
  match c with
  | .bool t => some (if t then a else b)
  | _ => none
def evNil (x : Value) : Option Value :=
  match x with
  | .pointer (some a) => some (.pointer (some a))
  | _ => none
def keep (H : AH) : Option Value → Option (Value × AH)
  | some v => some (v, H)
  | none => none

/-- An operation that is no call of a function. -/
def evOp (fr : Fr) (o : Oper) (H : AH) : Option (Value × AH) :=
  match o.op with
  | .move x => keep H (fr.ev x)
  | .assign x => keep H (fr.ev x)
  | .pick c a b => match fr.ev c, fr.ev a, fr.ev b with | some c, some a, some b => keep H (evPick c a b) | _, _, _ => none
  | .alloc t => evAlloc P H t
  | .box t x => match fr.ev x with | some x => evBox P H t x | none => none
  | .build t parts => match evParts fr parts.toList with | some l => keep H (evBuild P t l) | none => none
  | .buildSlice t len parts => match evParts fr parts.toList with | some l => evBuildSlice P H t len l | none => none
  | .load t a => match fr.ev a with | some a => keep H (evLoad P H t a) | none => none
  | .store t a x => match fr.ev a, fr.ev x with | some a, some x => (match evStore P H t x a with | some H' => some (undef, H') | none => none) | _, _ => none
  | .nilCheck x => match fr.ev x with | some x => keep H (evNil x) | none => none
  | .binOp op t x y _ => keep H (evBin P fr o op t x y)
  | .unOp .. => keep H (evPlain P fr o)
  | .index .. => keep H (evPlain P fr o)
  | .convert src dst x => evConvert P fr o H src dst x
  | .makeFunc (.func f) first captured => match fr.evs first.toList, fr.evs captured.toList with | some a, some b => some (.func (.func f) a.toArray b.toArray, H) | _, _ => none
  | .makeInterface t x => match fr.ev x with | some x => keep H (evMakeInterface P t x) | none => none
  | .makeSlice t l c => match fr.ev l, fr.ev c with | some l, some c => evMakeSlice P H t l c | _, _ => none
  | .slice t x lo hi mx => match fr.ev x with
    | some (.string _) => keep H (evPlain P fr o)
    | some x => (match elemT P t, fr.evo lo, fr.evo hi, fr.evo mx with | some e, some lo, some hi, some mx => keep H (evSlice P H e x lo hi mx) | _, _, _, _ => none)
    | none => none
  | .fieldAddr t x f => match fr.ev x with | some x => keep H (evFieldAddr P t x f) | none => none
  | .field t x f => match fr.ev x with | some x => keep H (evField P t x f) | none => none
  | .indexAddr t x i => match fr.ev x, fr.ev i with | some x, some i => keep H (evIndexAddr P t x i) | _, _ => none
  | .extract x i => match fr.ev x with | some x => keep H (evExtract x i) | none => none
  | .typeAssert x _ asserted true => match fr.ev x with | some x => keep H (evAssert P x asserted) | none => none
  | .call ⟨.builtin b, args, argTypes⟩ => match fr.evs args.toList with | some l => evBuiltin P fr o H b argTypes.toList l | none => none
  | _ => none

/-- Is it a call of a function? -/
def isCall : Op → Bool
  | .call ⟨.value _, _, _⟩ => true
  | _ => false
/-- Whom an operation calls, with what. -/
def evCallee (fr : Fr) (o : Oper) : Option (FuncId × List Value) :=
  match o.op with
  | .call ⟨.value f, args, _⟩ =>
    match fr.ev f, fr.evs args.toList with
    | some (.func (.func g) first captured), some vs => match P.funcs[g]? with
      | some fn => if fn.body.isSome && fn.name != "runtime.NumGoroutine" then some (g, first.toList ++ vs ++ captured.toList) else none
      | none => none
    | _, _ => none
  | _ => none

inductive Ex where
  | normal
  | exit (id : Nat)
  | ret
  deriving DecidableEq

/-- What may be done at another place of its region: it reads, or makes a variable, or nothing of both. -/
def floatOp : Op → Bool
  | .store .. => false
  | .call { callee := .builtin .len, .. } | .call { callee := .builtin .max, .. } | .call { callee := .builtin .min, .. } | .call { callee := .builtin .cap, .. } => true
  | .call _ => false
  | .convert .. => false
  | .move .. | .assign .. | .pick .. | .alloc .. | .box .. | .build .. | .buildSlice .. | .load .. | .nilCheck .. | .binOp .. | .unOp .. | .makeFunc .. | .makeInterface .. | .makeSlice .. | .slice .. | .fieldAddr .. | .field .. | .indexAddr .. | .index .. | .extract .. | .typeAssert .. => true
  | _ => false
def loadOp : Op → Bool
  | .load .. => true
  | _ => false

def bitOf (m i : Nat) : Bool := Nat.beq (Nat.mod (Nat.shiftRight m i) 2) 1
def maskAt (b : T Nat) (j : Nat) : Nat := match b.get j with | some m => m | none => 0
def edgeMask (b : T Nat) : List Edge → Nat
  | [] => 0
  | e :: es => match Region.binds .any e with
    | true => Nat.lor (Nat.lor (Nat.pow 2 e.on) (maskAt b e.on)) (edgeMask b es)
    | false => edgeMask b es
/-- Of each operation who is ahead of it in each order. -/
def befs : Nat → T Nat → List Oper → T Nat
  | _, b, [] => b
  | j, b, o :: l => befs (j + 1) (b.set j (edgeMask b o.after.toList)) l
def befOf (ops : Array Oper) : T Nat := befs 0 .nil ops.toList
/-- Is i ahead of j in each order? -/
def ahd (ops : Array Oper) (i j : Nat) : Bool := bitOf (maskAt (befOf ops) j) i
def isTmp (d : Nat) : Operand → Bool
  | .tmp t => t == d
  | _ => false
def looks (ops : Array Oper) (o : Oper) (d : Tmp) : Bool :=
  o.op.operands.toList.any (isTmp d) ||
  (match o.guard with
   | some (g, _) => (match (ops[g]?).bind (·.dst) with | some t => t == d | none => false)
   | none => false)
def tmpMask : List Operand → Nat
  | [] => 0
  | .tmp t :: l => Nat.lor (Nat.pow 2 t) (tmpMask l)
  | _ :: l => tmpMask l
def lookMask (ops : Array Oper) (o : Oper) : Nat :=
  match o.guard with
  | some (g, _) => match (ops[g]?).bind (·.dst) with
    | some t => Nat.lor (Nat.pow 2 t) (tmpMask o.op.operands.toList)
    | none => tmpMask o.op.operands.toList
  | none => tmpMask o.op.operands.toList
def allocOp : Op → Bool
  | .alloc .. | .box .. | .buildSlice .. | .makeSlice .. => true
  | _ => false
def dstIs (x : Option Tmp) (d : Nat) : Bool := match x with | some y => Nat.beq y d | none => false
structure PRow where
  i : Nat
  o : Oper
  look : Nat
  bef : Nat
  fl : Bool
  sees : Bool
def rowsOf (ops : Array Oper) (b : T Nat) : Nat → List Oper → List PRow
  | _, [] => []
  | j, o :: l => ⟨j, o, lookMask ops o, maskAt b j, floatOp o.op, loadOp o.op || allocOp o.op⟩ :: rowsOf ops b (j + 1) l
def calmPair (p r : PRow) : Bool :=
  (match p.o.dst with
   | some d => !(dstIs r.o.dst d) && (!(bitOf r.look d) || bitOf r.bef p.i)
   | none => true) &&
  (match r.o.dst with
   | some d => !(bitOf p.look d) || bitOf r.bef p.i
   | none => true)
def edgesOk (j : Nat) : List Edge → Bool
  | [] => true
  | e :: es => (!(Region.binds .any e) || Nat.ble (Nat.succ e.on) j) && edgesOk j es
def calmOne (r : PRow) : Bool := edgesOk r.i r.o.after.toList && (match r.o.dst with | some d => !(bitOf r.look d) | none => true)
def calmFrom (p : PRow) : List PRow → Bool
  | [] => true
  | r :: rest => calmPair p r && calmFrom p rest
/-- What a region must be like that draws its order: each slot is written once; what reads a slot that another one writes stands in order with it. -/
def calmAll : List PRow → Bool
  | [] => true
  | p :: rest => calmOne p && calmFrom p rest && calmAll rest
def besideOne (r p : PRow) : Bool := p.sees && !(bitOf r.bef p.i) && !(bitOf p.bef r.i)
def besideAny (r : PRow) : List PRow → Bool
  | [] => false
  | p :: rest => besideOne r p || besideAny r rest
/-- Does something that acts stand beside a load, or beside something new? -/
def looseOf (rs : List PRow) (r : PRow) : Bool := !r.fl && besideAny r rs
def actMask : List PRow → Nat
  | [] => 0
  | r :: l => match r.fl with | true => actMask l | false => Nat.lor (Nat.pow 2 r.i) (actMask l)
def keyOf (am : Nat) (r : PRow) : Nat := Nat.add (Nat.mul 2 (Nat.land am r.bef)) (match r.fl with | true => 0 | false => 1)
def insRow (am : Nat) (x : PRow) : List PRow → List PRow
  | [] => [x]
  | y :: l => match Nat.ble (keyOf am x) (keyOf am y) with
    | true => x :: y :: l
    | false => y :: insRow am x l
def sortRows (am : Nat) : List PRow → List PRow
  | [] => []
  | x :: l => insRow am x (sortRows am l)
def laterOk (x : PRow) : List PRow → Bool
  | [] => true
  | y :: l => !(Nat.beq x.i y.i) && !(bitOf x.bef y.i) && (bitOf y.bef x.i || x.fl) && laterOk x l
def orderOk : List PRow → Bool
  | [] => true
  | x :: l => laterOk x l && orderOk l
def idxMask : List PRow → Nat
  | [] => 0
  | x :: l => Nat.lor (Nat.pow 2 x.i) (idxMask l)
def picked (rs : List PRow) : List PRow → List (Oper × Bool)
  | [] => []
  | r :: l => (r.o, looseOf rs r) :: picked rs l
def opRows (ops : Array Oper) : List PRow := rowsOf ops (befOf ops) 0 ops.toList
/-- The order in which we do a region that draws its own: what need not wait for those that act goes ahead of them. -/
def canon (ops : Array Oper) : List PRow := sortRows (actMask (opRows ops)) (opRows ops)
/-- A region's plan. -/
def planOf (ops : Array Oper) : Option (List (Oper × Bool)) :=
  match calmAll (opRows ops) && orderOk (canon ops) && Nat.beq (idxMask (canon ops)) (Nat.sub (Nat.pow 2 ops.size) 1) with
  | true => some (picked (opRows ops) (canon ops))
  | false => none

/-- Is an operation performed? -/
def wantedA (ops : Array Oper) (fr : Fr) (o : Oper) : Option Bool :=
  match o.guard with
  | none => some true
  | some (j, want) => match (ops[j]?).bind (·.dst) with
    | some d => match fr.at d with
      | .bool t => some (t == want)
      | _ => some false
    | none => some false

def dstOk (nt : Nat) (o : Oper) : Bool := match o.dst with | some d => Nat.ble (d + 1) nt | none => true

variable (call : FuncId → List Value → AH → Option (Value × AH))

/-- One operation. -/
def evOper (fr : Fr) (o : Oper) (H : AH) : Option (Value × AH) :=
  match isCall o.op with
  | true => match evCallee P fr o with
    | some (g, args) => call g args H
    | none => none
  | false => evOp P fr o H

/-- The operations of a region, in the text's order. fl: who must leave alone what there was. -/
def evOps (ops : Array Oper) (nt : Nat) (l : List (Oper × Bool)) : Fr → AH → Option (Fr × AH) :=
  List.rec (motive := fun _ => Fr → AH → Option (Fr × AH)) (fun fr H => some (fr, H)) (fun x _ ih fr H =>
    match dstOk nt x.1 with
    | true => match wantedA ops fr x.1 with
      | some true => match x.2 with
        | true => match evOper P call fr x.1 { H with low := H.n } with
          | some (v, H') => if H.n ≤ H'.low then ih (fr.put x.1.dst v) { H' with low := Nat.min H.low H'.low } else none
          | none => none
        | false => match evOper P call fr x.1 H with
          | some (v, H') => ih (fr.put x.1.dst v) H'
          | none => none
      | some false => ih (fr.put x.1.dst undef) H
      | none => none
    | false => none) l
theorem evOps_nil (ops : Array Oper) (nt : Nat) (fr : Fr) (H : AH) : evOps P call ops nt [] fr H = some (fr, H) := rfl
theorem evOps_cons (ops : Array Oper) (nt : Nat) (o : Oper) (loose : Bool) (rest : List (Oper × Bool)) (fr : Fr) (H : AH) : evOps P call ops nt ((o, loose) :: rest) fr H =
    match dstOk nt o with
    | true => match wantedA ops fr o with
      | some true => match loose with
        | true => match evOper P call fr o { H with low := H.n } with
          | some (v, H') => if H.n ≤ H'.low then evOps P call ops nt rest (fr.put o.dst v) { H' with low := Nat.min H.low H'.low } else none
          | none => none
        | false => match evOper P call fr o H with
          | some (v, H') => evOps P call ops nt rest (fr.put o.dst v) H'
          | none => none
      | some false => evOps P call ops nt rest (fr.put o.dst undef) H
      | none => none
    | false => none := rfl

def evRegion (ops : Array Oper) (draw : Bool) (nt : Nat) (fr : Fr) (H : AH) : Option (Fr × AH) :=
  if draw then
    match planOf ops with
    | some l => evOps P call ops nt l fr H
    | none => none
  else evOps P call ops nt (ops.toList.map fun o => (o, false)) fr H

def evCode (nt : Nat) (k : Nat) : Code → Fr → AH → Option (Ex × Fr × AH) :=
  Nat.rec (motive := fun _ => Code → Fr → AH → Option (Ex × Fr × AH)) (fun _ _ _ => none) (fun _ ih c fr H =>
    match c with
    | .skip => some (.normal, fr, H)
    | .region _ ops draw => match evRegion P call ops draw nt fr H with
      | some (fr', H') => some (.normal, fr', H')
      | none => none
    | .seq a b => match ih a fr H with
      | some (.normal, fr', H') => ih b fr' H'
      | r => r
    | .cond c a b => match fr.ev c with
      | some (.bool true) => ih a fr H
      | some (.bool false) => ih b fr H
      | _ => none
    | .block id c => match ih c fr H with
      | some (.exit i, fr', H') => if i = id then some (.normal, fr', H') else some (.exit i, fr', H')
      | r => r
    | .loop c => match ih c fr H with
      | some (.normal, fr', H') => ih (.loop c) fr' H'
      | r => r
    | .exit id => some (.exit id, fr, H)
    | .ret => some (.ret, fr, H)
    | _ => none) k
theorem evCode_zero (nt : Nat) (c : Code) (fr : Fr) (H : AH) : evCode P call nt 0 c fr H = none := rfl
theorem evCode_succ (nt k : Nat) (c : Code) (fr : Fr) (H : AH) : evCode P call nt (k + 1) c fr H =
    match c with
    | .skip => some (.normal, fr, H)
    | .region _ ops draw => match evRegion P call ops draw nt fr H with
      | some (fr', H') => some (.normal, fr', H')
      | none => none
    | .seq a b => match evCode P call nt k a fr H with
      | some (.normal, fr', H') => evCode P call nt k b fr' H'
      | r => r
    | .cond c a b => match fr.ev c with
      | some (.bool true) => evCode P call nt k a fr H
      | some (.bool false) => evCode P call nt k b fr H
      | _ => none
    | .block id c => match evCode P call nt k c fr H with
      | some (.exit i, fr', H') => if i = id then some (.normal, fr', H') else some (.exit i, fr', H')
      | r => r
    | .loop c => match evCode P call nt k c fr H with
      | some (.normal, fr', H') => evCode P call nt k (.loop c) fr' H'
      | r => r
    | .exit id => some (.exit id, fr, H)
    | .ret => some (.ret, fr, H)
    | _ => none := rfl

/-- A function's results. -/
def evRes (fr : Fr) (H : AH) : List ResultVar → Option (List Value)
  | [] => some []
  | .tmp t :: rs => match evRes fr H rs with | some vs => some (fr.at t :: vs) | none => none
  | .cell a t :: rs => match evLoad P H t (fr.at a), evRes fr H rs with | some v, some vs => some (v :: vs) | _, _ => none
def evResults (rs : Array ResultVar) (fr : Fr) (H : AH) : Option Value :=
  match evRes P fr H rs.toList with
  | some [v] => some v
  | some vs => some (.tuple vs.toArray)
  | none => none

/-- The slots at the beginning. -/
def frArgs : Nat → List Value → Fr → Fr
  | _, [], fr => fr
  | i, v :: vs, fr => frArgs (i + 1) vs (T.set fr i v)
end

def evCall (P : Program) (k : Nat) : FuncId → List Value → AH → Option (Value × AH) :=
  Nat.rec (motive := fun _ => FuncId → List Value → AH → Option (Value × AH)) (fun _ _ _ => none) (fun k ih f args H =>
    match P.funcs[f]? with
    | some fn => match fn.body with
      | some c => match Nat.ble args.length fn.ntmps with
        | true => match evCode P ih fn.ntmps k c (frArgs 0 args T.nil) H with
          | some (.normal, fr, H') | some (.ret, fr, H') => match evResults P fn.results fr H' with
            | some v => some (v, H')
            | none => none
          | _ => none
        | false => none
      | none => none
    | none => none) k
theorem evCall_zero (P : Program) (f : FuncId) (args : List Value) (H : AH) : evCall P 0 f args H = none := rfl
theorem evCall_succ (P : Program) (k : Nat) (f : FuncId) (args : List Value) (H : AH) : evCall P (k + 1) f args H =
    match P.funcs[f]? with
    | some fn => match fn.body with
      | some c => match Nat.ble args.length fn.ntmps with
        | true => match evCode P (evCall P k) fn.ntmps k c (frArgs 0 args T.nil) H with
          | some (.normal, fr, H') | some (.ret, fr, H') => match evResults P fn.results fr H' with
            | some v => some (v, H')
            | none => none
          | _ => none
        | false => none
      | none => none
    | none => none := rfl

def H0 : AH := { n := 0, t := .nil, g := .nil, low := 0 }
end
end Go.Ae
