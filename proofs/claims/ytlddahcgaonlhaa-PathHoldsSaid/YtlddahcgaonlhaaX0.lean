/- What is computed: Speck, the field, the flow, sealed bytes, the digest, as plain functions. -/
import Derived.Test.YtlddahcgaonlhaaF5
set_option linter.all false
namespace Go.Proofs.Ytlddahcgaonlhaa
open Go Go.Abs

def x64 (a b : Int) : Int := bits .xor .u64 a b
def o64 (a b : Int) : Int := bits .or .u64 a b
def shl64 (a : Int) (n : Nat) : Int := IntKind.u64.wrap (a * 2 ^ n)
def shr64 (a : Int) (n : Nat) : Int := a.fdiv (2 ^ n)
/-- Turned right by 8, left by 3. -/
def rotR8 (x : Int) : Int := o64 (shl64 x 56) (shr64 x 8)
def rotL3 (x : Int) : Int := o64 (shl64 x 3) (shr64 x 61)
def mixF (x y k : Int) : Int × Int := (x64 (IntKind.u64.wrap (rotR8 x + y)) k, x64 (rotL3 y) (x64 (IntKind.u64.wrap (rotR8 x + y)) k))
/-- n round keys from the i-th on. -/
def rkF : Nat → Nat → Int → Int → List Int
  | 0, _, _, _ => []
  | n + 1, i, l, k => k :: rkF n (i + 1) (mixF l k (i : Int)).1 (mixF l k (i : Int)).2
def keysF (key : Pr) : List Int := rkF 32 0 key.1 key.2
def encF (key block : Pr) : Pr := (keysF key).foldl (fun s k => mixF s.1 s.2 k) block
def addF (a b : Pr) : Pr := (x64 a.1 b.1, x64 a.2 b.2)
def dblF (a : Pr) : Pr := (o64 (shl64 a.1 1) (shr64 a.2 63), if shr64 a.1 63 == 1 then x64 (shl64 a.2 1) 135 else shl64 a.2 1)
/-- Is digit i of b (from the highest on) set? -/
def digF (b : Pr) (i : Nat) : Bool := bits .and .u64 (shr64 (if i < 64 then b.1 else b.2) (63 - i % 64)) 1 == 1
def mulF (a b : Pr) : Pr := (List.range 128).foldl (fun out i => if digF b i then addF (dblF out) a else dblF out) (0, 0)
def evalF (h : Pr) (l : List Pr) : Pr := l.foldl (fun out x => mulF (addF x out) h) (0, 0)
def pairB (p : Pr) : Bs := putB p.1 8 ++ putB p.2 8
def getB (b : Bs) : Int := b.foldl (fun v c => o64 (shl64 v 8) (c.toNat : Int)) 0
def pairF (b : Bs) : Pr := (getB (b.take 8), getB (b.drop 8))
/-- Rows of 16, the last one shorter. -/
def rowsF (b : Bs) : List Bs := if h : b = [] then [] else b.take 16 :: rowsF (b.drop 16)
termination_by b.length
decreasing_by
  have : 0 < b.length := List.length_pos_iff.2 h
  simp; omega
def fillF (b : Bs) : Bs := b ++ List.replicate (16 - b.length) 0
def pairsF (b : Bs) : List Pr := (rowsF b).map fun r => pairF (fillF r)
def subF (key : Pr) (n : Nn) : Pr := encF key (o64 (shl64 (IntKind.u64.wrap n.1) 32) (IntKind.u64.wrap n.2.1), n.2.2)
/-- k rows of the flow from the i-th on. -/
def flowR (sub : Pr) : Nat → Nat → Bs
  | 0, _ => []
  | k + 1, i => pairB (encF sub ((i : Int), 0)) ++ flowR sub k (i + 1)
def flowF (sub : Pr) (n : Nat) : Bs := (flowR sub ((n + 15) / 16) 1).take n
def xorB (a b : Bs) : Bs := List.zipWith (fun x y => x ^^^ y) a b
def tagF (sub : Pr) (head b : Bs) : Pr := addF (evalF (encF sub (0, 1)) (pairsF head ++ pairsF b ++ [((head.length : Int), (b.length : Int))])) (encF sub (0, 0))
def gcmB (key : Pr) (n : Nn) (data : Bs) : Bs := xorB data (flowF (subF key n) data.length)
def gcmT (key : Pr) (n : Nn) (head b : Bs) : Pr := tagF (subF key n) head b
def gcmO (key : Pr) (n : Nn) (head b : Bs) (tg : Pr) : Option Bs := if head.length ≤ 4000 ∧ b.length ≤ 4000 ∧ gcmT key n head b = tg then some (gcmB key n b) else none
def stepF (s m : Pr) : Pr := (x64 (encF m s).1 s.1, x64 (encF m s).2 s.2)
def padF (p : Bs) : Bs := p ++ [128] ++ List.replicate ((24 - (p.length + 1) % 16) % 16) 0 ++ putB (p.length : Nat) 8
def digestF (p : Bs) : Pr := (rowsF (padF p)).foldl (fun s r => stepF s (pairF r)) (7640891576956012808, 13503953896175478587)
end Go.Proofs.Ytlddahcgaonlhaa
