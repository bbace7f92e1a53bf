import Derived.Orders
import Derived.RowKit
namespace Go.Proofs.YtonpnjfclelpiaaGreatM
open Go
set_option linter.unusedVariables false
set_option linter.unusedSimpArgs false
theorem nr {α : Sort _} {a b : α} (h : a = b) : a = b := h
inductive Sh where
 | int (k : IntKind)
 | bool
 | str
 | ptr
 | slice (e : TypeId)
 | struct (fs : List (Nat × TypeId))
 | fn
structure TI where
 sh : Sh
 size : Nat
 bytes : Nat
 zero : List Value
def Sh.agg : Sh → Bool
 | .struct _ => true
 | _ => false
def U (e : Nat) : Nat := 18446744073709551616 + e
structure Blk where
 cells : List Value
 rw : Bool
structure Hp where
 next : Nat
 blk : Nat → Option Blk
def Hp.put (h : Hp) (n : Nat) (b : Option Blk) : Hp := { h with blk := fun m => if m = n then b else h.blk m }
def Hp.to (h : Hp) (n : Nat) : Hp := { h with next := n }
def Hp.cl (h : Hp) (n : Nat) : Hp := { next := h.next + n, blk := fun m => if m < h.next then h.blk m else none }
def Hp.cell (h : Hp) (n o : Nat) : Option Value := (h.blk n).bind fun b => b.cells[o]?
def Hp.cells (h : Hp) (n o k : Nat) : Option (List Value) := (h.blk n).bind fun b => if o + k ≤ b.cells.length then some ((b.cells.drop o).take k) else none
def splice (l : List Value) (o : Nat) (xs : List Value) : List Value := l.take o ++ xs ++ l.drop (o + xs.length)
def isVar : Value → Bool
 | .tuple _ | .func _ _ _ => false
 | _ => true
def ldv (Γ : TypeId → Option TI) (t : TypeId) (a : Value) (h : Hp) : Option Value :=
 match a, Γ t with
 | .pointer (some ⟨n, o, none⟩), some i => if i.sh.agg then (h.cells n o i.size).map fun cs => .agg cs.toArray else h.cell n o
 | _, _ => none
def stv (Γ : TypeId → Option TI) (t : TypeId) (a x : Value) (h : Hp) : Option Hp :=
 match a, Γ t with
 | .pointer (some ⟨n, o, none⟩), some i =>
  (h.blk n).bind fun b => if b.rw && isVar x && x.cells.size == i.size && decide (o + i.size ≤ b.cells.length) then some (h.put n (some { b with cells := splice b.cells o x.cells.toList })) else none
 | _, _ => none
def fillL (place : Nat → Option (Nat × Nat)) (cells : List Value) : List (Nat × Value) → Option (List Value)
 | [] => some cells
 | (i, v) :: rest =>
  match place i with
  | none => none
  | some (off, size) => if isVar v = true ∧ v.cells.size = size ∧ off + v.cells.size ≤ cells.length then fillL place (splice cells off v.cells.toList) rest else none
def repZ (zero : List Value) : Nat → List Value
 | 0 => []
 | n + 1 => zero ++ repZ zero n
def binI (op : BinOp) (k : IntKind) (a b : Int) : Option Value :=
 match op with
 | .add => some (.int k (k.wrap (a + b)))
 | .sub => some (.int k (k.wrap (a - b)))
 | .mul => some (.int k (k.wrap (a * b)))
 | .quo => if b = 0 then none else some (.int k (k.wrap (a.tdiv b)))
 | .rem => if b = 0 then none else some (.int k (a.tmod b))
 | .and => some (.int k (bits .and k a b))
 | .or => some (.int k (bits .or k a b))
 | .xor => some (.int k (bits .xor k a b))
 | .eql => some (.bool (a == b))
 | .neq => some (.bool (a != b))
 | .lss => some (.bool (decide (a < b)))
 | .leq => some (.bool (decide (a ≤ b)))
 | .gtr => some (.bool (decide (a > b)))
 | .geq => some (.bool (decide (a ≥ b)))
 | _ => none
def binS (op : BinOp) (a b : ByteArray) : Option Value :=
 match op with
 | .add => if a.size + b.size ≤ 4611686018427387904 then some (.string (a ++ b)) else none
 | .eql => some (.bool (a.toList == b.toList))
 | .neq => some (.bool (!(a.toList == b.toList)))
 | _ => none
def allI : List Value → Bool
 | [] => true
 | .int .i64 _ :: r => allI r
 | _ => false
def allB : List Value → Bool
 | [] => true
 | .int .u8 _ :: r => allB r
 | _ => false
def numI : Value → Int
 | .int _ n => n
 | _ => 0
def binV (Γ : TypeId → Option TI) (E : TypeId → Nat) (op : BinOp) (t : TypeId) (x y : Value) : Option Value :=
 match op, x, y with
 | .shl, .int k a, .int _ b => if b < 0 then none else some (.int k (k.wrap (a * 2 ^ min b.toNat k.bits)))
 | .shr, .int k a, .int _ b => if b < 0 then none else some (.int k (a.fdiv (2 ^ min b.toNat k.bits)))
 | op, .int k a, .int k' b => if k = k' then binI op k a b else none
 | op, .string a, .string b => binS op a b
 | .eql, .bool a, .bool b => match Γ t with | some ⟨.bool, _, _, _⟩ => some (.bool (a == b)) | _ => none
 | .neq, .bool a, .bool b => match Γ t with | some ⟨.bool, _, _, _⟩ => some (.bool (!(a == b))) | _ => none
 | .eql, .slice a _ _, .slice none _ _ => match Γ t with | some ⟨.slice _, _, _, _⟩ => some (.bool a.isNone) | _ => none
 | .neq, .slice a _ _, .slice none _ _ => match Γ t with | some ⟨.slice _, _, _, _⟩ => some (.bool (!a.isNone)) | _ => none
 | .eql, .agg a, .agg b => if E t ≠ 0 ∧ a.size = E t ∧ b.size = E t ∧ allI a.toList = true ∧ allI b.toList = true then some (.bool (decide (a.toList.map numI = b.toList.map numI))) else none
 | .neq, .agg a, .agg b => if E t ≠ 0 ∧ a.size = E t ∧ b.size = E t ∧ allI a.toList = true ∧ allI b.toList = true then some (.bool (!decide (a.toList.map numI = b.toList.map numI))) else none
 | _, _, _ => none
def unV (op : UnOp) (x : Value) : Option Value :=
 match op, x with
 | .neg, .int k n => some (.int k (k.wrap (0 - n)))
 | .not, .bool b => some (.bool !b)
 | _, _ => none
def asN : Option Value → Nat → Option Nat
 | none, d => some d
 | some (.int _ n), _ => if 0 ≤ n then some n.toNat else none
 | _, _ => none
def sliceV (Γ : TypeId → Option TI) (t : TypeId) (x : Value) (lo hi mx : Option Value) (len : Nat → Option Nat) : Option Value :=
 match Γ t, x with
 | some ⟨.str, _, _, _⟩, .string s =>
  match asN lo 0, asN hi s.size, mx with
  | some l, some u, none => if l ≤ u ∧ u ≤ s.size then some (.string (s.extract l u)) else none
  | _, _, _ => none
 | some ⟨.slice e, _, _, _⟩, .slice none 0 0 =>
  match asN lo 0, asN hi 0, mx, Γ e with
  | some 0, some 0, none, some _ => some (.slice none 0 0)
  | _, _, _, _ => none
 | some ⟨.slice e, _, _, _⟩, .slice (some ⟨n, o, none⟩) k c =>
  match asN lo 0, asN hi k, Γ e with
  | some l, some u, some i =>
   if i.size = 0 then none else
   match mx with
   | none =>
    if c = U i.size then
     if l ≤ u ∧ (u ≤ k ∨ (len n).any (fun m => decide (o + u * i.size ≤ m)) = true) then some (.slice (some ⟨n, o + l * i.size, none⟩) (u - l) (U i.size)) else none
    else if c < 18446744073709551616 ∧ l ≤ u ∧ u ≤ c then some (.slice (some ⟨n, o + l * i.size, none⟩) (u - l) (c - l)) else none
   | some m =>
    match asN (some m) 0 with
    | some m => if hi.isSome = true ∧ l ≤ u ∧ u ≤ m ∧ m ≤ k ∧ m < 18446744073709551616 then some (.slice (some ⟨n, o + l * i.size, none⟩) (u - l) (m - l)) else none
    | none => none
  | _, _, _ => none
 | _, _ => none
def pureV (Γ : TypeId → Option TI) (E : TypeId → Nat) (ρ : Operand → Value) : Op → Option Value
 | .move x | .assign x => some (ρ x)
 | .pick c a b => match ρ c with
  | .bool t => some (if t then ρ a else ρ b)
  | _ => none
 | .nilCheck x => match ρ x with
  | .pointer (some a) => some (.pointer (some a))
  | .func (.func f) a b => some (.func (.func f) a b)
  | _ => none
 | .binOp op t x y _ => binV Γ E op t (ρ x) (ρ y)
 | .unOp op _ x => unV op (ρ x)
 | .convert s d x => match Γ s, Γ d, ρ x with
  | some ⟨.int _, _, _, _⟩, some ⟨.int k, _, _, _⟩, .int _ n => some (.int k (k.wrap n))
  | some ⟨.str, _, _, _⟩, some ⟨.str, _, _, _⟩, .string b => some (.string b)
  | _, _, _ => none
 | .fieldAddr s x f => match Γ s, ρ x with
  | some ⟨.struct fs, _, _, _⟩, .pointer (some ⟨n, o, none⟩) =>
   match fs[f]? with
   | some (d, t) => match Γ t with
    | some i => if i.size = 0 then none else some (.pointer (some ⟨n, o + d, none⟩))
    | none => none
   | none => none
  | _, _ => none
 | .field s x f => match Γ s, ρ x with
  | some ⟨.struct fs, _, _, _⟩, .agg cs =>
   match fs[f]? with
   | some (d, t) => match Γ t with
    | some i => if i.sh.agg then (if d + i.size ≤ cs.size then some (.agg ((cs.toList.drop d).take i.size).toArray) else none) else cs[d]?
    | none => none
   | none => none
  | _, _ => none
 | .indexAddr t x i => match Γ t, ρ x, ρ i with
  | some ⟨.slice e, _, _, _⟩, .slice (some ⟨n, o, none⟩) len _, .int _ j => match Γ e with
   | some ie => if 0 ≤ j ∧ j < len then some (.pointer (some ⟨n, o + j.toNat * ie.size, none⟩)) else none
   | none => none
  | _, _, _ => none
 | .index t x i => match Γ t, ρ x, ρ i with
  | some ⟨.str, _, _, _⟩, .string s, .int _ j => if 0 ≤ j then (s[j.toNat]?).map fun b => .int .u8 b.toNat else none
  | _, _, _ => none
 | .extract x j => match ρ x with
  | .tuple vs => vs[j]?
  | _ => none
 | .makeFunc (.func f) first captured => if first.toList.all (fun x => isVar (ρ x)) && captured.toList.all (fun x => isVar (ρ x)) then some (.func (.func f) (first.map ρ) (captured.map ρ)) else none
 | .build t parts => match Γ t with
  | some ⟨.struct fs, _, _, zero⟩ => if fs.all (fun p => (Γ p.2).isSome) = false then none else (fillL (fun i => (fs[i]?).bind fun p => (Γ p.2).map fun ti => (p.1, ti.size)) zero (parts.toList.map fun p => (p.1, ρ p.2))).map fun cs => .agg cs.toArray
  | _ => none
 | .slice t x lo hi mx => sliceV Γ t (ρ x) (lo.map ρ) (hi.map ρ) (mx.map ρ) fun _ => none
 | .call { callee := .builtin .len, args, argTypes } => match argTypes[0]?, args[0]? with
  | some t, some x => match Γ t, ρ x with
   | some ⟨.str, _, _, _⟩, .string s => some (.int .i64 s.size)
   | some ⟨.slice _, _, _, _⟩, .slice _ n _ => some (.int .i64 n)
   | _, _ => none
  | _, _ => none
 | .call { callee := .builtin .min, args, .. } => match args.toList with
  | [x, y] => match ρ x, ρ y with
   | .int k a, .int _ b => some (.int k (if b < a then b else a))
   | _, _ => none
  | _ => none
 | .call { callee := .builtin .max, args, .. } => match args.toList with
  | [x, y] => match ρ x, ρ y with
   | .int k a, .int _ b => some (.int k (if b > a then b else a))
   | _, _ => none
  | _ => none
 | _ => none
def makeV (Γ : TypeId → Option TI) (nm : Nat) (ρ : Operand → Value) : Op → Option (Value × Blk)
 | .alloc e => (Γ e).map fun i => (.pointer (some ⟨nm, 0, none⟩), { cells := i.zero, rw := true })
 | .box _ x => if isVar (ρ x) then some (.pointer (some ⟨nm, 0, none⟩), { cells := (ρ x).cells.toList, rw := true }) else none
 | .buildSlice t len parts => match Γ t with
  | some ⟨.slice e, _, _, _⟩ => match Γ e with
   | some i => if i.size = 0 ∨ i.zero.length ≠ i.size ∨ len * i.size > 16777216 then none else (fillL (fun j => some (j * i.size, i.size)) (repZ i.zero len) (parts.toList.map fun p => (p.1, ρ p.2))).map fun cs =>
     (.slice (some ⟨nm, 0, none⟩) len (U i.size), { cells := cs, rw := true })
   | none => none
  | _ => none
 | .makeSlice t l c => match Γ t, ρ l, ρ c with
  | some ⟨.slice e, _, _, _⟩, .int _ n, .int _ m => match Γ e with
   | some i => if n = m ∧ 0 ≤ n ∧ n < 4294967296 ∧ i.bytes * n ≤ 281474976710656 ∧ i.size ≠ 0 ∧ i.zero.length = i.size then
     some (.slice (some ⟨nm, 0, none⟩) n.toNat (U i.size), { cells := repZ i.zero n.toNat, rw := true }) else none
   | none => none
  | _, _, _ => none
 | .convert s d x => match Γ s, Γ d, ρ x with
  | some ⟨.str, _, _, _⟩, some ⟨.slice e, _, _, _⟩, .string b => match Γ e with
   | some ⟨.int .u8, 1, 1, _⟩ => some (.slice (some ⟨nm, 0, none⟩) b.size (U 1), { cells := b.data.toList.map fun x => .int .u8 x.toNat, rw := true })
   | _ => none
  | _, _, _ => none
 | _ => none
def tailV (i : TI) (ti : Option TI) (x : Value) (h : Hp) : Option (List Value × Nat) :=
 match ti, x with
 | some ⟨.slice _, _, _, _⟩, .slice none 0 0 => some ([], 0)
 | some ⟨.slice _, _, _, _⟩, .slice (some ⟨n, o, none⟩) k _ => if k = 0 then some ([], 0) else (h.cells n o (k * i.size)).map fun cs => (cs, k)
 | some ⟨.str, _, _, _⟩, .string s => if i.size = 1 then some (s.data.toList.map fun b => .int .u8 b.toNat, s.size) else none
 | _, _ => none
def appendV (Γ : TypeId → Option TI) (nm : Nat) (t : TypeId) (t2 : TypeId) (s x : Value) (h : Hp) : Option (Value × Hp) :=
 match Γ t with
 | some ⟨.slice e, _, _, _⟩ => match Γ e with
  | some i => match tailV i (Γ t2) x h with
   | some (cs, k) =>
    if i.size = 0 ∨ i.bytes = 0 ∨ i.bytes > 65536 ∨ i.zero.length ≠ i.size then none else
    match s with
    | .slice none 0 0 => if k = 0 then some (.slice none 0 0, h) else if k > 1073741824 then none else
      some (.slice (some ⟨nm, 0, none⟩) k (U i.size), h.put nm (some { cells := cs, rw := true }))
    | .slice (some ⟨n, o, none⟩) len c =>
     if k = 0 then some (.slice (some ⟨n, o, none⟩) len c, h) else
     match h.blk n with
     | some b =>
      if len + k > 1073741824 ∨ o + len * i.size > b.cells.length then none else
      if c = U i.size then
       if !b.rw then none else
       if o + (len + k) * i.size ≤ b.cells.length then some (.slice (some ⟨n, o, none⟩) (len + k) (U i.size), h.put n (some { b with cells := splice b.cells (o + len * i.size) cs }))
       else if o + len * i.size = b.cells.length then
        some (.slice (some ⟨nm, 0, none⟩) (len + k) (U i.size), (h.put n none).put nm (some { cells := b.cells.drop o ++ cs, rw := true }))
       else none
      else if len + k ≤ c ∨ c ≥ 18446744073709551616 then none
      else some (.slice (some ⟨nm, 0, none⟩) (len + k) (U i.size), h.put nm (some { cells := (b.cells.drop o).take (len * i.size) ++ cs, rw := true }))
     | none => none
    | _ => none
   | none => none
  | none => none
 | _ => none
def effV (Γ : TypeId → Option TI) (nm : Nat) (ρ : Operand → Value) (o : Op) (h : Hp) : Option (Value × Hp) :=
 match o with
 | .store t a x => (stv Γ t (ρ a) (ρ x) h).map fun h' => (undef, h')
 | .call { callee := .builtin .append, args, argTypes } => match argTypes[0]?, argTypes[1]?, args[0]?, args[1]? with
  | some t, some t2, some s, some x => appendV Γ nm t t2 (ρ s) (ρ x) h
  | _, _, _, _ => none
 | .call { callee := .builtin .clear, args, argTypes } => match argTypes[0]?, args[0]? with
  | some t, some x => match Γ t, ρ x with
   | some ⟨.slice e, _, _, _⟩, .slice a k _ => if k = 0 then some (.tuple #[], h) else match a, Γ e with
    | some ⟨n, o, none⟩, some i => (h.blk n).bind fun b => if b.rw ∧ i.zero.length = i.size ∧ o + k * i.size ≤ b.cells.length then some (.tuple #[], h.put n (some { b with cells := splice b.cells o (repZ i.zero k) })) else none
    | _, _ => none
   | _, _ => none
  | _, _ => none
 | _ => none
def textV (Γ : TypeId → Option TI) (s d : TypeId) (x : Value) (h : Hp) : Option Value :=
 match Γ s, Γ d, x with
 | some ⟨.slice e, _, _, _⟩, some ⟨.str, _, _, _⟩, .slice none 0 0 => match Γ e with | some ⟨.int .u8, _, _, _⟩ => some (.string .empty) | _ => none
 | some ⟨.slice e, _, _, _⟩, some ⟨.str, _, _, _⟩, .slice (some ⟨n, o, none⟩) k _ => match Γ e with
  | some ⟨.int .u8, _, _, _⟩ => (h.cells n o k).bind fun cs => if allB cs then some (.string ((cs.map numI).foldl (fun r n => r.push (UInt8.ofNat n.toNat)) .empty)) else none
  | _ => none
 | _, _, _ => none
def opV (Γ : TypeId → Option TI) (E : TypeId → Nat) (nm : Nat) (ρ : Operand → Value) (o : Op) (h : Hp) : Option (Value × Hp) :=
 match pureV Γ E ρ o with
 | some v => some (v, h)
 | none => match o with
  | .load t a => (ldv Γ t (ρ a) h).map fun v => (v, h)
  | _ => match makeV Γ nm ρ o with
   | some (v, b) => some (v, h.put nm (some b))
   | none => match effV Γ nm ρ o h with
    | some r => some r
    | none => match o with
     | .convert s d x => (textV Γ s d (ρ x) h).map fun v => (v, h)
     | _ => none
end Go.Proofs.YtonpnjfclelpiaaGreatM
