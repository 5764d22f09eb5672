/- The abstract layer, part 3: small instructions: how Go's operations are compiled to them, what they answer; that the real operation does the same. -/
import Derived.Test.YtlddahcgaonlhaaA2
set_option linter.all false
namespace Go.Abs
open Go

/-- Kinds of cells that are compared. -/
inductive CK where
  | i | b | s
  deriving Inhabited
/-- Kinds of values that are compared. -/
inductive EK where
  | b | s | p | f
  | a (ks : List CK)
  deriving Inhabited

/-- Kinds of a map's keys. -/
inductive MK where
  | i | s
  | a (ks : List CK)
  deriving Inhabited
/-- Operations beyond the plain ones: each has rules of its own. -/
inductive Ex where
  | mkmap
  | look (mk : MK) (z : AV) (ok : Bool) (m k : Opd)
  | mput (mk : MK) (m k v : Opd)
  | mlen (m : Opd)
  | s2b (x : Opd)
  | caps (x : Opd)
  | slc3 (sz : Nat) (x : Opd) (lo hi : Option Opd) (mx : Opd)
  | callx (f : Nat) (xs : List Opd)
  | strish (x : Opd)
  | appz (sz bytes : Nat) (z : List AV) (s n : Opd)
  | mkif (t : Nat) (x : Opd)
  | inv (name : String) (x : Opd) (xs : List Opd)
  | asrt (t : Nat) (ok : Bool) (z : AV) (x : Opd)
  | clr (sz : Nat) (z : List AV) (x : Opd)
  deriving Inhabited
inductive Ins where
  | mov (x : Opd)
  | pick (c a b : Opd)
  | alloc (z : List AV)
  | box (sz : Nat) (x : Opd)
  | build (z : List AV) (parts : List (Nat × Nat × Opd))
  | bsl0
  | bsl (sz : Nat) (xs : List Opd)
  | load (sz : Nat) (ag : Bool) (x : Opd)
  | store (sz : Nat) (p x : Opd)
  | nilck (x : Opd)
  | bin (op : BinOp) (x y : Opd)
  | sh (op : BinOp) (x y : Opd)
  | eqv (k : EK) (neg : Bool) (x y : Opd)
  | isnil (neg : Bool) (x : Opd)
  | not (x : Opd)
  | conv (k : IntKind) (x : Opd)
  | b2s (x : Opd)
  | mkf (fn : Fn) (xs ys : List Opd)
  | mksl (sz : Nat) (z : List AV) (bytes : Nat) (l c : Opd)
  | slc (sz : Nat) (x : Opd) (lo hi : Option Opd)
  | faddr (off : Nat) (x : Opd)
  | fld (off sz : Nat) (ag : Bool) (x : Opd)
  | iaddr (sz : Nat) (x i : Opd)
  | iaddrA (n sz : Nat) (x i : Opd)
  | ext (n : Nat) (x : Opd)
  | len (x : Opd)
  | app (sz bytes : Nat) (s x : Opd)
  | cpy (sz : Nat) (d s : Opd)
  | mn (x y : Opd)
  | call (f : Nat) (xs : List Opd)
  | callv (x : Opd) (xs : List Opd)
  | raw (x : Ex)
  | bad
  deriving Inhabited

inductive Eff where
  | none
  | set (id : Nat) (x : AObj)
  | new (x : AObj)
  | del (id : Nat)
def Eff.on (nm : Nat) : Eff → AHeap → AHeap
  | .none, h => h
  | .set id x, h => h.set id (some x)
  | .new x, h => h.put nm x
  | .del id, h => h.set id Option.none

/-- 'if p then x else nothing', under a name of its own: for simp with a discharger. -/
def req {α : Type} (p : Prop) [Decidable p] (x : Option α) : Option α := if p then x else none
theorem req_pos {α : Type} {p : Prop} [Decidable p] {x : Option α} (hp : p) : req p x = x := if_pos hp
theorem req_some {α : Type} {p : Prop} [Decidable p] {x : Option α} {y : α} (h : req p x = some y) : p ∧ x = some y := by
  unfold req at h
  split at h
  · exact ⟨‹_›, h⟩
  · cases h

def binA (op : BinOp) (k : IntKind) (a b : Int) : Option AV :=
  match op with
  | .add => some (.int k (k.wrap (a + b)))
  | .sub => some (.int k (k.wrap (a - b)))
  | .mul => some (.int k (k.wrap (a * b)))
  | .quo => req (b ≠ 0) (some (.int k (k.wrap (a.tdiv b))))
  | .rem => req (b ≠ 0) (some (.int k (a.tmod b)))
  | .and => some (.int k (bits .and k a b))
  | .or => some (.int k (bits .or k a b))
  | .xor => some (.int k (bits .xor k a b))
  | .andNot => some (.int k (bits .andNot k a b))
  | .eql => some (.bool (a == b))
  | .neq => some (.bool (a != b))
  | .lss => some (.bool (decide (a < b)))
  | .leq => some (.bool (decide (a ≤ b)))
  | .gtr => some (.bool (decide (a > b)))
  | .geq => some (.bool (decide (a ≥ b)))
  | _ => none
def shA (op : BinOp) (k : IntKind) (a b : Int) : Option AV :=
  match op with
  | .shl => req (0 ≤ b) (some (.int k (k.wrap (a * 2 ^ (min b.toNat k.bits)))))
  | .shr => req (0 ≤ b) (some (.int k (a.fdiv (2 ^ (min b.toNat k.bits)))))
  | _ => none
def eqCells : List CK → List AV → List AV → Option Bool
  | [], [], [] => some true
  | .i :: ks, .int k a :: xs, .int k' b :: ys => if k = k' then (eqCells ks xs ys).map (fun r => (a == b) && r) else none
  | .b :: ks, .bool a :: xs, .bool b :: ys => (eqCells ks xs ys).map (fun r => (a == b) && r)
  | .s :: ks, .str a :: xs, .str b :: ys => (eqCells ks xs ys).map (fun r => (a == b) && r)
  | _, _, _ => none
def eqA : EK → AV → AV → Option Bool
  | .b, .bool a, .bool b => some (a == b)
  | .s, .str a, .str b => some (a == b)
  | .p, .nilp, .nilp => some true
  | .p, .ptr _ _ _, .nilp => some false
  | .p, .iptr _ _ _ _, .nilp => some false
  | .f, .nilf, .nilf => some true
  | .f, .func _ _ _, .nilf => some false
  | .a ks, .agg xs, .agg ys => eqCells ks xs ys
  | _, _, _ => none
def isNilA : AV → Option Bool
  | .imm _ (_ :: _) => some false
  | .app _ _ _ (_ :: _) => some false
  | .ref _ _ _ => some false
  | _ => none
def toB : List (List AV) → Option (List UInt8)
  | [] => some []
  | [.int .u8 n] :: r => (toB r).map (UInt8.ofNat n.toNat :: ·)
  | _ => none
def AV.isTup : AV → Bool
  | .tup _ => true
  | _ => false
def fillA : List AV → List (Nat × Nat × AV) → Option (List AV)
  | cells, [] => some cells
  | cells, (off, sz, v) :: r => if v.cs.length = sz ∧ off + sz ≤ cells.length ∧ v.isTup = false then fillA (putC cells off v.cs) r else none
def evP (e : Env) : List (Nat × Nat × Opd) → Option (List (Nat × Nat × AV))
  | [] => some []
  | (o, s, x) :: r => match ev e x, evP e r with
    | some v, some vs => some ((o, s, v) :: vs)
    | _, _ => none
def cellsL (sz : Nat) : List AV → Option (List (List AV))
  | [] => some []
  | v :: r => if v.cs.length = sz ∧ v.isTup = false then (cellsL sz r).map (v.cs :: ·) else none
/-- A bound of a slice expression. -/
def bnd (e : Env) (dflt : Nat) : Option Opd → Option Nat
  | none => some dflt
  | some x => match ev e x with
    | some (.int _ n) => req (0 ≤ n) (some n.toNat)
    | _ => none
def rdL (g : Nat → Option AObj) : AV → Option Nat
  | .nils => some 0
  | .imm _ c => some c.length
  | .app _ _ _ c => some c.length
  | .ref _ _ n => some n
  | _ => none

def evalI (nm : Nat) (i : Ins) (e : Env) (g : Nat → Option AObj) : Option (Option AV × Eff) :=
  match i with
  | .mov x => match ev e x with
    | some v => some (some v, .none)
    | _ => none
  | .pick c a b => match ev e c with
    | some (.bool t) => match (if t then ev e a else ev e b) with
      | some v => some (some v, .none)
      | _ => none
    | _ => none
  | .alloc z => some (some (.ptr nm 0 0), .new (.mem z.length [z]))
  | .box sz x => match ev e x with
    | some v => if v.cs.length = sz ∧ v.isTup = false then some (some (.ptr nm 0 0), .new (.mem sz [v.cs])) else none
    | _ => none
  | .build z ps => match evP e ps with
    | some vs => match fillA z vs with
      | some cells => some (some (.agg cells), .none)
      | _ => none
    | _ => none
  | .bsl0 => some (some .nils, .none)
  | .bsl sz xs => match evL e xs with
    | some vs => match cellsL sz vs with
      | some c => some (some (.imm sz c), .none)
      | _ => none
    | _ => none
  | .load sz ag x => match ev e x with
    | some p => match rdP g p with
      | some (s, c, i, off) => match c[i]? with
        | some cells => match getC sz ag cells off with
          | some v => some (some v, .none)
          | _ => none
        | _ => none
      | _ => none
    | _ => none
  | .store sz p x => match ev e p, ev e x with
    | some (.ptr id i off), some v => match g id with
      | some (.mem s c) => match c[i]? with
        | some cells => if v.cs.length = sz ∧ off + sz ≤ cells.length ∧ v.isTup = false then some (none, .set id (.mem s (c.set i (putC cells off v.cs)))) else none
        | _ => none
      | _ => none
    | _, _ => none
  | .nilck x => match ev e x with
    | some (.ptr id i off) => some (some (.ptr id i off), .none)
    | some (.iptr s c i off) => some (some (.iptr s c i off), .none)
    | some (.func (.func f) xs ys) => some (some (.func (.func f) xs ys), .none)
    | _ => none
  | .bin op x y => match ev e x, ev e y with
    | some (.int k a), some (.int k' b) => if k = k' then (match binA op k a b with | some v => some (some v, .none) | _ => none) else none
    | _, _ => none
  | .sh op x y => match ev e x, ev e y with
    | some (.int k a), some (.int _ b) => match shA op k a b with
      | some v => some (some v, .none)
      | _ => none
    | _, _ => none
  | .eqv k neg x y => match ev e x, ev e y with
    | some u, some v => match eqA k u v with
      | some r => some (some (.bool (if neg then !r else r)), .none)
      | _ => none
    | _, _ => none
  | .isnil neg x => match ev e x with
    | some u => match isNilA u with
      | some r => some (some (.bool (if neg then !r else r)), .none)
      | _ => none
    | _ => none
  | .not x => match ev e x with
    | some (.bool b) => some (some (.bool (!b)), .none)
    | _ => none
  | .conv k x => match ev e x with
    | some (.int _ n) => some (some (.int k (k.wrap n)), .none)
    | _ => none
  | .b2s x => match ev e x with
    | some s => match rdS g 1 s with
      | some c => match toB c with
        | some l => some (some (.str l), .none)
        | _ => none
      | _ => none
    | _ => none
  | .mkf fn xs ys => match evL e xs, evL e ys with
    | some vs, some us => some (some (.func fn vs us), .none)
    | _, _ => none
  | .mksl sz z bytes l c => match ev e l, ev e c with
    | some (.int _ n), some (.int _ k) => req (0 ≤ n ∧ n = k ∧ n * bytes ≤ 140737488355328) (some (some (.ref nm 0 n.toNat), .new (.mem sz (List.replicate n.toNat z))))
    | _, _ => none
  | .slc sz x lo hi => match ev e x with
    | some .nils => match bnd e 0 lo, bnd e 0 hi with
      | some l, some r => req (l = 0 ∧ r = 0) (some (some .nils, .none))
      | _, _ => none
    | some (.imm s c) => match bnd e 0 lo, bnd e c.length hi with
      | some l, some r => req (s = sz ∧ l ≤ r ∧ r ≤ c.length) (some (some (.imm s ((c.take r).drop l)), .none))
      | _, _ => none
    | some (.app _ _ s c) => match bnd e 0 lo, bnd e c.length hi with
      | some l, some r => req (s = sz ∧ l ≤ r ∧ r ≤ c.length) (some (some (.imm s ((c.take r).drop l)), .none))
      | _, _ => none
    | some (.ref id off n) => match g id with
      | some (.mem s _) => match bnd e 0 lo, bnd e n hi with
        | some l, some r => req (s = sz ∧ l ≤ r ∧ r ≤ n) (some (some (.ref id (off + l) (r - l)), .none))
        | _, _ => none
      | _ => none
    | _ => none
  | .faddr d x => match ev e x with
    | some (.ptr id i off) => some (some (.ptr id i (off + d)), .none)
    | some (.iptr s c i off) => some (some (.iptr s c i (off + d)), .none)
    | _ => none
  | .fld off sz ag x => match ev e x with
    | some (.agg cells) => match getC sz ag cells off with
      | some v => some (some v, .none)
      | _ => none
    | _ => none
  | .iaddr sz x i => match ev e x, ev e i with
    | some (.imm s c), some (.int _ n) => req (s = sz ∧ 0 ≤ n ∧ n < c.length) (some (some (.iptr s c n.toNat 0), .none))
    | some (.app _ _ s c), some (.int _ n) => req (s = sz ∧ 0 ≤ n ∧ n < c.length) (some (some (.iptr s c n.toNat 0), .none))
    | some (.ref id off l), some (.int _ n) => match g id with
      | some (.mem s _) => req (s = sz ∧ 0 ≤ n ∧ n < l) (some (some (.ptr id (off + n.toNat) 0), .none))
      | _ => none
    | _, _ => none
  | .iaddrA k sz x i => match ev e x, ev e i with
    | some (.ptr id j off), some (.int _ n) => req (0 ≤ n ∧ n < k) (some (some (.ptr id j (off + n.toNat * sz)), .none))
    | some (.iptr s c j off), some (.int _ n) => req (0 ≤ n ∧ n < k) (some (some (.iptr s c j (off + n.toNat * sz)), .none))
    | _, _ => none
  | .ext n x => match ev e x with
    | some (.tup vs) => match vs[n]? with
      | some v => some (some v, .none)
      | _ => none
    | _ => none
  | .len x => match ev e x with
    | some s => match rdL g s with
      | some n => some (some (.int .i64 n), .none)
      | _ => none
    | _ => none
  | .app sz bytes s x => match ev e s, ev e x with
    | some .nils, some y => match rdS g sz y with
      | some d => req (d.length * bytes ≤ 140737488355328) (some (some (.app nm 0 sz d), .new (.tail 0 d.length)))
      | _ => none
    | some (.app id k s' c), some y => match rdS g sz y, g id with
      | some d, some (.tail k' n) => req (s' = sz ∧ k' = k ∧ n = c.length ∧ (c.length + d.length) * bytes ≤ 140737488355328) (some (some (.app id k sz (c ++ d)), .set id (.tail k (c.length + d.length))))
      | _, _ => none
    | _, _ => none
  | .cpy sz d s => match ev e d, ev e s with
    | some (.ref id off l), some y => match g id, rdS g sz y with
      | some (.mem s' c), some cs => req (s' = sz ∧ off + l ≤ c.length) (some (some (.int .i64 ((min cs.length l : Nat) : Int)), .set id (.mem s' (c.take off ++ cs.take (min cs.length l) ++ c.drop (off + min cs.length l)))))
      | _, _ => none
    | _, _ => none
  | .mn x y => match ev e x, ev e y with
    | some (.int k a), some (.int k' b) => if k = k' then some (some (.int k (if b < a then b else a)), .none) else none
    | _, _ => none
  | .call _ _ => none
  | .callv _ _ => none
  | .raw _ => none
  | .bad => none

/-- The kinds of a type's cells: whole numbers, bools, strings, and rows and structs of these that leave no gap. -/
def flatF (flat : TypeId → Option (List CK)) (P : Program) : Nat → List Field → Option (List CK)
  | _, [] => some []
  | o, f :: fs => match flat f.type, tyI P f.type with
    | some ks, some (sz, ag) => if f.name ≠ "_" ∧ f.offset = o ∧ ks.length = sz ∧ (ag = true ∨ sz = 1) then (flatF flat P (o + sz) fs).map (ks ++ ·) else none
    | _, _ => none
def flatN (ks : List CK) : Nat → List CK
  | 0 => []
  | n + 1 => ks ++ flatN ks n
def flatK (P : Program) : Nat → TypeId → Option (List CK)
  | 0, _ => none
  | d + 1, t => match P.underlying t with
    | some (.int _) => some [.i]
    | some .bool => some [.b]
    | some .string => some [.s]
    | some (.struct fs) => if P.stoodInHeld t = false then flatF (flatK P d) P 0 fs.toList else none
    | some (.array n el) => match flatK P d el, tyI P el with
      | some ks, some (sz, ag) => if ks.length = sz ∧ (ag = true ∨ sz = 1) then some (flatN ks n) else none
      | _, _ => none
    | _ => none
/-- How values of a type are compared. -/
def eqKind (P : Program) (t : TypeId) (y : Operand) : Option EK :=
  match P.underlying t with
  | some .bool => some .b
  | some .string => some .s
  | some (.pointer _) => match y with
    | .const (.pointer none) => some .p
    | _ => none
  | some (.func _ _ _) => match y with
    | .const .nilFunc => some .f
    | _ => none
  | some (.struct _) | some (.array _ _) => if P.eqGuardType P.depth t = false then (flatK P 5 t).map .a else none
  | _ => none

/-- An operation's instruction; 'none': it isn't taken. -/
def compileOp (P : Program) (N : Nat) (o : Oper) : Option Ins :=
  match o.op with
  | .move x => (ofOpd N x).map .mov
  | .assign x => (ofOpd N x).map .mov
  | .pick c a b => match ofOpd N c, ofOpd N a, ofOpd N b with
    | some c, some a, some b => some (.pick c a b)
    | _, _, _ => none
  | .alloc t => match (P.info? t).bind (·.zero) with
    | some z => match z with
      | .tuple _ => none
      | z => (ofL ofV z.cells.toList).map .alloc
    | _ => none
  | .box t x => match P.info? t, ofOpd N x with
    | some i, some x => some (.box i.size x)
    | _, _ => none
  | .build t ps => match P.underlying t, (P.info? t).bind (·.zero) with
    | some (.struct fs), some z =>
      match ofL ofV z.cells.toList, ofL (fun (p : Nat × Operand) => match fs[p.1]? with
          | some f => match P.info? f.type, ofOpd N p.2 with
            | some i, some x => some (f.offset, i.size, x)
            | _, _ => none
          | _ => none) ps.toList with
      | some z, some q => if fs.toList.all (fun f => (P.info? f.type).isSome) then some (.build z q) else none
      | _, _ => none
    | some (.array _ el), some z => match P.info? el with
      | some i => match ofL ofV z.cells.toList, ofL (fun (p : Nat × Operand) => match ofOpd N p.2 with
            | some x => some (p.1 * i.size, i.size, x)
            | _ => none) ps.toList with
        | some z, some q => some (.build z q)
        | _, _ => none
      | _ => none
    | _, _ => none
  | .buildSlice t n ps => match P.underlying t with
    | some (.slice el) => match P.info? el with
      | some i => if n = 0 ∧ ps.size = 0 then some .bsl0 else
        match ofL (fun (p : Nat × Operand) => ofOpd N p.2) ps.toList, i.zero with
        | some xs, some z => if n * i.size ≤ 2 ^ 24 ∧ 0 < n ∧ 0 < i.size ∧ z.cells.size = i.size ∧ ps.toList.map (·.1) = List.range n then some (.bsl i.size xs) else none
        | _, _ => none
      | _ => none
    | _ => none
  | .load t x => match tyI P t, ofOpd N x with
    | some (sz, ag), some x => if ag ∨ sz = 1 then some (.load sz ag x) else none
    | _, _ => none
  | .store t p x => match P.info? t, ofOpd N p, ofOpd N x with
    | some i, some p, some x => some (.store i.size p x)
    | _, _, _ => none
  | .nilCheck x => (ofOpd N x).map .nilck
  | .binOp op t x y _ => match ofOpd N x, ofOpd N y with
    | some u, some v => match op with
      | .shl => some (.sh .shl u v)
      | .shr => some (.sh .shr u v)
      | .eql => match P.underlying t with
        | some (.int _) => some (.bin .eql u v)
        | some (.slice _) => match y with
          | .const (.slice none 0 0) => some (.isnil false u)
          | _ => none
        | _ => (eqKind P t y).map fun k => .eqv k false u v
      | .neq => match P.underlying t with
        | some (.int _) => some (.bin .neq u v)
        | some (.slice _) => match y with
          | .const (.slice none 0 0) => some (.isnil true u)
          | _ => none
        | _ => (eqKind P t y).map fun k => .eqv k true u v
      | op => some (.bin op u v)
    | _, _ => none
  | .unOp .not _ x => (ofOpd N x).map .not
  | .convert s d x => match P.underlying s, P.underlying d, ofOpd N x with
    | some (.int _), some (.int k), some x => some (.conv k x)
    | some (.slice el), some .string, some x => match P.underlying el with
      | some (.int .u8) => some (.b2s x)
      | _ => none
    | _, _, _ => none
  | .makeFunc fn xs ys => match ofL (ofOpd N) xs.toList, ofL (ofOpd N) ys.toList with
    | some xs, some ys => some (.mkf fn xs ys)
    | _, _ => none
  | .makeSlice t l c => match P.underlying t, ofOpd N l, ofOpd N c with
    | some (.slice el), some l, some c => match P.info? el with
      | some i => match i.zero with
        | some z => match ofL ofV z.cells.toList with
          | some zs => if 0 < i.bytes ∧ 0 < i.size ∧ z.cells.size = i.size then some (.mksl i.size zs i.bytes l c) else none
          | _ => none
        | _ => none
      | _ => none
    | _, _, _ => none
  | .slice t x lo hi none => match P.underlying t, ofOpd N x with
    | some (.slice el), some x => match P.info? el with
      | some i => match lo, hi with
        | none, none => some (.slc i.size x none none)
        | some l, none => (ofOpd N l).map fun l => .slc i.size x (some l) none
        | none, some r => (ofOpd N r).map fun r => .slc i.size x none (some r)
        | some l, some r => match ofOpd N l, ofOpd N r with
          | some l, some r => some (.slc i.size x (some l) (some r))
          | _, _ => none
      | _ => none
    | _, _ => none
  | .fieldAddr s x f => match P.underlying s, ofOpd N x with
    | some (.struct fs), some x => match fs[f]? with
      | some fd => match P.info? fd.type with
        | some i => if i.size ≠ 0 then some (.faddr fd.offset x) else none
        | _ => none
      | _ => none
    | _, _ => none
  | .field s x f => match P.underlying s, ofOpd N x with
    | some (.struct fs), some x => match fs[f]? with
      | some fd => match tyI P fd.type with
        | some (sz, ag) => if ag ∨ sz = 1 then some (.fld fd.offset sz ag x) else none
        | _ => none
      | _ => none
    | _, _ => none
  | .indexAddr t x i => match P.underlying t, ofOpd N x, ofOpd N i with
    | some (.slice el), some x, some i => match P.info? el with
      | some inf => some (.iaddr inf.size x i)
      | _ => none
    | some (.array n el), some x, some i => match P.info? el with
      | some inf => some (.iaddrA n inf.size x i)
      | _ => none
    | _, _, _ => none
  | .extract x n => (ofOpd N x).map (.ext n)
  | .call c => match c.callee with
    | .builtin .len => match c.args.toList, c.argTypes[0]? with
      | [x], some t => match P.underlying t, ofOpd N x with
        | some (.slice _), some x => some (.len x)
        | _, _ => none
      | _, _ => none
    | .builtin .append => match c.args.toList, c.argTypes.toList with
      | [s, x], [t, u] => match P.underlying t, P.underlying u, ofOpd N s, ofOpd N x with
        | some (.slice el), some (.slice el'), some s, some x => match P.info? el with
          | some i => match i.zero with
            | some z => if el' = el ∧ t = u ∧ 0 < i.size ∧ 0 < i.bytes ∧ z.cells.size = i.size then some (.app i.size i.bytes s x) else none
            | _ => none
          | _ => none
        | _, _, _, _ => none
      | _, _ => none
    | .builtin .copy => match c.args.toList, c.argTypes[0]? with
      | [d, s], some t => match P.underlying t, ofOpd N d, ofOpd N s with
        | some (.slice el), some d, some s => match P.info? el with
          | some i => some (.cpy i.size d s)
          | _ => none
        | _, _, _ => none
      | _, _ => none
    | .builtin .min => match c.args.toList with
      | [x, y] => match ofOpd N x, ofOpd N y with
        | some x, some y => some (.mn x y)
        | _, _ => none
      | _ => none
    | .value (.func f) => match P.funcs[f]?, ofL (ofOpd N) c.args.toList with
      | some fn, some xs => if fn.body.isSome && fn.name != "runtime.NumGoroutine" then some (.call f xs) else none
      | _, _ => none
    | .value (.tmp t) => match ofOpd N (.tmp t), ofL (ofOpd N) c.args.toList with
      | some x, some xs => some (.callv x xs)
      | _, _ => none
    | _ => none
  | _ => none
def mkind (P : Program) (t : TypeId) : Option MK :=
  match P.underlying t with
  | some (.int _) => some .i
  | some .string => some .s
  | some (.struct _) | some (.array _ _) => if P.eqGuardType P.depth t = false then (flatK P 5 t).map .a else none
  | _ => none
/-- The operations beyond the plain ones. -/
def compileX (P : Program) (N : Nat) (o : Oper) : Option Ex :=
  match o.op with
  | .makeMap _ none => some .mkmap
  | .lookup t m k ok => match P.underlying t, ofOpd N m, ofOpd N k with
    | some (.map kt et), some m, some k => match mkind P kt, P.info? et with
      | some mk, some i => match i.zero with
        | some z => match ofV z with
          | some v => some (.look mk v ok m k)
          | none => none
        | none => none
      | _, _ => none
    | _, _, _ => none
  | .mapUpdate t m k v | .insert t m k v => match P.underlying t, ofOpd N m, ofOpd N k, ofOpd N v with
    | some (.map kt _), some m, some k, some v => (mkind P kt).map fun mk => .mput mk m k v
    | _, _, _, _ => none
  | .convert s d x => match P.underlying s, P.underlying d, ofOpd N x with
    | some .string, some (.slice el), some x => match P.underlying el with
      | some (.int .u8) => some (.s2b x)
      | _ => none
    | some (.slice el), some (.slice _), some x => match P.underlying el with
      | some (.int .u8) => if s = d then some (.strish x) else none
      | _ => none
    | _, _, _ => none
  | .makeInterface t x => match P.underlying t, ofOpd N x with
    | some (.interface _), _ => none
    | some _, some x => some (.mkif t x)
    | _, _ => none
  | .typeAssert x _ t ok => match P.underlying t, (P.info? t).bind (·.zero), ofOpd N x with
    | some (.int _), some z, some x => match ofV z with
      | some v => some (.asrt t ok v x)
      | none => none
    | _, _, _ => none
  | .slice t x lo hi (some mx) => match P.underlying t, ofOpd N x, ofOpd N mx with
    | some (.slice el), some x, some mx => match P.info? el with
      | some i => match lo, hi with
        | none, none => some (.slc3 i.size x none none mx)
        | some l, none => (ofOpd N l).map fun l => .slc3 i.size x (some l) none mx
        | none, some r => (ofOpd N r).map fun r => .slc3 i.size x none (some r) mx
        | some l, some r => match ofOpd N l, ofOpd N r with
          | some l, some r => some (.slc3 i.size x (some l) (some r) mx)
          | _, _ => none
      | _ => none
    | _, _, _ => none
  | .call c => match c.callee with
    | .builtin .len => match c.args.toList, c.argTypes[0]? with
      | [x], some t => match P.underlying t, ofOpd N x with
        | some (.map _ _), some x => some (.mlen x)
        | _, _ => none
      | _, _ => none
    | .builtin .cap => match c.args.toList, c.argTypes[0]? with
      | [x], some t => match P.underlying t, ofOpd N x with
        | some (.slice _), some x => some (.caps x)
        | _, _ => none
      | _, _ => none
    | .builtin .append => match c.args.toList, c.argTypes.toList with
      | [s, x], [t, u] => match P.underlying t, P.underlying u, ofOpd N s, ofOpd N x with
        | some (.slice el), some (.int _), some s, some x => match P.info? el with
          | some i => match i.zero with
            | some z => match ofL ofV z.cells.toList with
              | some zs => if 0 < i.size ∧ 0 < i.bytes ∧ z.cells.size = i.size then some (.appz i.size i.bytes zs s x) else none
              | none => none
            | _ => none
          | _ => none
        | _, _, _, _ => none
      | _, _ => none
    | .builtin .clear => match c.args.toList, c.argTypes[0]? with
      | [x], some t => match P.underlying t, ofOpd N x with
        | some (.slice el), some x => match P.info? el with
          | some i => match i.zero with
            | some z => match ofL ofV z.cells.toList with
              | some zs => some (.clr i.size zs x)
              | none => none
            | none => none
          | _ => none
        | _, _ => none
      | _, _ => none
    | .value (.func f) => match P.funcs[f]?, ofL (ofOpd N) c.args.toList with
      | some fn, some xs => if fn.body.isNone then some (.callx f xs) else none
      | _, _ => none
    | .invoke x nm => match ofOpd N x, ofL (ofOpd N) c.args.toList with
      | some x, some xs => some (.inv nm x xs)
      | _, _ => none
    | _ => none
  | _ => none
end Go.Abs
