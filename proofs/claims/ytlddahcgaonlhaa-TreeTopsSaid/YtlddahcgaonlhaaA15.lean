/- The abstract layer, part 15: one rule for each instruction, for walks. -/
import Derived.Test.YtlddahcgaonlhaaA14
import Derived.Laws.Bits64b
set_option linter.all false
namespace Go.Abs
open Go

/-- The guard is met. -/
def met (e : Env) : Option (Nat × Bool) → Prop
  | none => True
  | some (s, b) => lk s e = some (.bool b)

structure Stp (c : CI) (e : Env) (h : AHeap) (e' : Env) (h' : AHeap) : Prop where
  ok : stepCI c e h = some (e', h')

/-- A byte. -/
def encB (b : UInt8) : List AV := [.int .u8 b.toNat]
theorem toB_map : ∀ {l : List UInt8}, toB (l.map encB) = some l
  | [] => rfl
  | b :: l => by
    have := toB_map (l := l)
    simp [encB, toB] at this ⊢
    simp [this]
/-- Two numbers as one value; a number that is used once. -/
abbrev Pr := Int × Int
def encP (p : Pr) : List AV := [.int .u64 p.1, .int .u64 p.2]
abbrev Nn := Int × Int × Int
def encN (n : Nn) : List AV := [.int .u32 n.1, .int .u32 n.2.1, .int .u64 n.2.2]
/-- What was sealed. -/
structure Iss where
  key : Pr
  n : Nn
  head : List UInt8
  data : List UInt8
  out : List UInt8
  tag : Pr
def encI (x : Iss) : List AV := [.int .u64 x.key.1, .int .u64 x.key.2, .int .u32 x.n.1, .int .u32 x.n.2.1, .int .u64 x.n.2.2, .imm 1 (x.head.map encB), .imm 1 (x.data.map encB), .imm 1 (x.out.map encB), .int .u64 x.tag.1, .int .u64 x.tag.2]
def encS (b : List UInt8) (t : Pr) : List AV := [.imm 1 (b.map encB), .int .u64 t.1, .int .u64 t.2]
/-- One act of a play. -/
structure Act7 where
  op : Int
  key : Pr
  n : Nn
  head : List UInt8
  data : List UInt8
  at7 : Int
  x : Int
def encA (a : Act7) : List AV := [.int .i64 a.op, .int .u64 a.key.1, .int .u64 a.key.2, .int .u32 a.n.1, .int .u32 a.n.2.1, .int .u64 a.n.2.2, .imm 1 (a.head.map encB), .imm 1 (a.data.map encB), .int .i64 a.at7, .int .u64 a.x]
/-- Groups of instructions. -/
def grp : Ins → Nat
  | .mov _ => 0
  | .ext _ _ | .fld _ _ _ _ | .faddr _ _ | .nilck _ | .len _ => 1
  | .load _ _ _ => 2
  | .bin _ _ _ | .sh _ _ _ | .conv _ _ | .not _ | .eqv _ _ _ _ | .pick _ _ _ | .mn _ _ => 3
  | .alloc _ | .box _ _ | .build _ _ | .store _ _ _ | .bsl0 | .bsl _ _ => 4
  | .call _ _ | .callv _ _ | .raw _ | .bad | .isnil _ _ => 6
  | _ => 5
theorem Stp.grp {c : CI} {e : Env} {h : AHeap} {e' : Env} {h' : AHeap} (k : Nat) (_hk : Go.Abs.grp c.i = k) (hs : Stp c e h e' h') : Stp c e h e' h' := hs

section
variable {P : Program} {N : Nat} {Q : Exit → Env → AHeap → Prop} {e : Env} {h : AHeap} {d : Nat} {l : List CI}

theorem stepCI_met {c : CI} (hg : met e c.g) : stepCI c e h = execCI c e h := by
  unfold stepCI
  split
  · rfl
  · rename_i s b hgs
    simp only [met, hgs] at hg
    simp [hg]
theorem Stp.ins {c : CI} {r : Option AV} {f : Eff} (hx : evalI h.next c.i e h.get = some (r, f)) (hg : met e c.g) : Stp c e h (putR c.d r e) (f.on h.next h) := by
  exact ⟨by rw [stepCI_met hg]; simp [execCI, hx]⟩
theorem Stp.unmet {i : Ins} {s : Nat} {b t : Bool} (hg : lk s e = some (.bool t)) (hne : (!b) = t) : Stp ⟨some d, i, some (s, b)⟩ e h ((d, none) :: e) h := by
  subst hne; exact ⟨by simp [stepCI, hg, putR]⟩
theorem Stp.unmet0 {i : Ins} {s : Nat} {b t : Bool} (hg : lk s e = some (.bool t)) (hne : (!b) = t) : Stp ⟨none, i, some (s, b)⟩ e h e h := by
  subst hne; exact ⟨by simp [stepCI, hg, putR]⟩

variable {g : Option (Nat × Bool)} {x y z p : Opd} {u v r : AV} {a b : Int} {k k' : IntKind}

theorem Stp.mov (hx : ev e x = some v) (hg : met e g) : Stp ⟨some d, .mov x, g⟩ e h ((d, some v) :: e) h :=
  Stp.ins (r := some v) (f := .none) (by simp [evalI, hx]) hg
theorem Stp.pickT (hc : ev e x = some (.bool true)) (hx : ev e y = some v) (hg : met e g) : Stp ⟨some d, .pick x y z, g⟩ e h ((d, some v) :: e) h :=
  Stp.ins (r := some v) (f := .none) (by simp [evalI, hc, hx]) hg
theorem Stp.pickF (hc : ev e x = some (.bool false)) (hx : ev e z = some v) (hg : met e g) : Stp ⟨some d, .pick x y z, g⟩ e h ((d, some v) :: e) h :=
  Stp.ins (r := some v) (f := .none) (by simp [evalI, hc, hx]) hg
theorem Stp.alloc {z : List AV} {nx : Nat} (hn : h.next = nx) (hg : met e g) : Stp ⟨some d, .alloc z, g⟩ e h ((d, some (.ptr nx 0 0)) :: e) (h.put nx (.mem z.length [z])) := by
  subst hn
  exact Stp.ins (r := some (.ptr h.next 0 0)) (f := .new (.mem z.length [z])) (by simp [evalI]) hg
theorem Stp.box {sz : Nat} (hx : ev e x = some v) (hs : v.cs.length = sz) (ht : v.isTup = false) {nx : Nat} (hn : h.next = nx) (hg : met e g) : Stp ⟨some d, .box sz x, g⟩ e h ((d, some (.ptr nx 0 0)) :: e) (h.put nx (.mem sz [v.cs])) := by
  subst hn
  exact Stp.ins (r := some (.ptr h.next 0 0)) (f := .new (.mem sz [v.cs])) (by simp [evalI, hx, hs, ht]) hg
theorem Stp.build {z : List AV} {ps : List (Nat × Nat × Opd)} {vs : List (Nat × Nat × AV)} {cells : List AV} (hp : evP e ps = some vs) (hf : fillA z vs = some cells) (hg : met e g) : Stp ⟨some d, .build z ps, g⟩ e h ((d, some (.agg cells)) :: e) h :=
  Stp.ins (r := some (.agg cells)) (f := .none) (by simp [evalI, hp, hf]) hg
theorem Stp.buildN {z : List AV} {ps : List (Nat × Nat × Opd)} {vs : List (Nat × Nat × AV)} {cells cells' : List AV} (hp : evP e ps = some vs) (hf : fillA z vs = some cells) (hn : cells = cells') (hg : met e g) : Stp ⟨some d, .build z ps, g⟩ e h ((d, some (.agg cells')) :: e) h := by subst hn; exact Stp.build hp hf hg
theorem Stp.boxN {sz : Nat} {cs : List AV} (hx : ev e x = some v) (hs : v.cs.length = sz) (ht : v.isTup = false) {nx : Nat} (hn : h.next = nx) (hc : v.cs = cs) (hg : met e g) : Stp ⟨some d, .box sz x, g⟩ e h ((d, some (.ptr nx 0 0)) :: e) (h.put nx (.mem sz [cs])) := by subst hc; exact Stp.box hx hs ht hn hg
theorem Stp.bsl0 (hg : met e g) : Stp ⟨some d, .bsl0, g⟩ e h ((d, some .nils) :: e) h :=
  Stp.ins (r := some .nils) (f := .none) (by simp [evalI]) hg
theorem Stp.bsl {sz : Nat} {xs : List Opd} {vs : List AV} {c : List (List AV)} (hv : evL e xs = some vs) (hc : cellsL sz vs = some c) (hg : met e g) : Stp ⟨some d, .bsl sz xs, g⟩ e h ((d, some (.imm sz c)) :: e) h :=
  Stp.ins (r := some (.imm sz c)) (f := .none) (by simp [evalI, hv, hc]) hg
theorem Stp.bslN {sz : Nat} {xs : List Opd} {vs : List AV} {c c' : List (List AV)} (hv : evL e xs = some vs) (hc : cellsL sz vs = some c) (hn : c = c') (hg : met e g) : Stp ⟨some d, .bsl sz xs, g⟩ e h ((d, some (.imm sz c')) :: e) h := by subst hn; exact Stp.bsl hv hc hg
theorem Stp.load {sz s i off : Nat} {ag : Bool} {c : List (List AV)} {cells : List AV} (hx : ev e x = some u) (hp : rdP h.get u = some (s, c, i, off)) (hi : c[i]? = some cells) (hv : getC sz ag cells off = some v) (hg : met e g) : Stp ⟨some d, .load sz ag x, g⟩ e h ((d, some v) :: e) h :=
  Stp.ins (r := some v) (f := .none) (by simp [evalI, hx, hp, hi, hv]) hg
/-- A load from a cell of one row. -/
theorem Stp.load1 {sz s id off : Nat} {ag : Bool} {cells : List AV} (hx : ev e x = some (.ptr id 0 off)) (hp : h.get id = some (.mem s [cells])) (hv : getC sz ag cells off = some v) (hg : met e g) : Stp ⟨some d, .load sz ag x, g⟩ e h ((d, some v) :: e) h :=
  Stp.load hx (by simp only [rdP, hp]; rfl) rfl hv hg
theorem Stp.loadp {sz s id i off : Nat} {ag : Bool} {c : List (List AV)} {cells : List AV} (hx : ev e x = some (.ptr id i off)) (hp : h.get id = some (.mem s c)) (hi : c[i]? = some cells) (hv : getC sz ag cells off = some v) (hg : met e g) : Stp ⟨some d, .load sz ag x, g⟩ e h ((d, some v) :: e) h :=
  Stp.load hx (by simp only [rdP, hp]; rfl) hi hv hg
theorem Stp.loadi {sz s i off : Nat} {ag : Bool} {c : List (List AV)} {cells : List AV} (hx : ev e x = some (.iptr s c i off)) (hi : c[i]? = some cells) (hv : getC sz ag cells off = some v) (hg : met e g) : Stp ⟨some d, .load sz ag x, g⟩ e h ((d, some v) :: e) h :=
  Stp.load hx rfl hi hv hg
theorem Stp.store {sz s id i off : Nat} {c : List (List AV)} {cells : List AV} (hp : ev e p = some (.ptr id i off)) (hx : ev e x = some v) (ho : h.get id = some (.mem s c)) (hi : c[i]? = some cells) (hs : v.cs.length = sz) (hb : off + sz ≤ cells.length) (ht : v.isTup = false) (hg : met e g) : Stp ⟨none, .store sz p x, g⟩ e h e (h.set id (some (.mem s (c.set i (putC cells off v.cs))))) :=
  Stp.ins (r := none) (f := .set id (.mem s (c.set i (putC cells off v.cs)))) (by simp [evalI, hx, hp, ho, hi, hs, ht, hb]) hg
theorem Stp.store1 {sz s id off : Nat} {cells : List AV} (hp : ev e p = some (.ptr id 0 off)) (hx : ev e x = some v) (ho : h.get id = some (.mem s [cells])) (hs : v.cs.length = sz) (hb : off + sz ≤ cells.length) (ht : v.isTup = false) (hg : met e g) : Stp ⟨none, .store sz p x, g⟩ e h e (h.set id (some (.mem s [putC cells off v.cs]))) :=
  Stp.store hp hx ho rfl hs hb ht hg
theorem Stp.storeN {sz s id i off : Nat} {c : List (List AV)} {cells cs : List AV} (hp : ev e p = some (.ptr id i off)) (hx : ev e x = some v) (ho : h.get id = some (.mem s c)) (hi : c[i]? = some cells) (hs : v.cs.length = sz) (hb : off + sz ≤ cells.length) (ht : v.isTup = false) (hn : putC cells off v.cs = cs) (hg : met e g) : Stp ⟨none, .store sz p x, g⟩ e h e (h.set id (some (.mem s (c.set i cs)))) := by subst hn; exact Stp.store hp hx ho hi hs hb ht hg
theorem Stp.store1N {sz s id off : Nat} {cells cs : List AV} (hp : ev e p = some (.ptr id 0 off)) (hx : ev e x = some v) (ho : h.get id = some (.mem s [cells])) (hs : v.cs.length = sz) (hb : off + sz ≤ cells.length) (ht : v.isTup = false) (hn : putC cells off v.cs = cs) (hg : met e g) : Stp ⟨none, .store sz p x, g⟩ e h e (h.set id (some (.mem s [cs]))) := by subst hn; exact Stp.store1 hp hx ho hs hb ht hg
theorem Stp.allocN {z : List AV} {n nx : Nat} (hn : h.next = nx) (hl : z.length = n) (hg : met e g) : Stp ⟨some d, .alloc z, g⟩ e h ((d, some (.ptr nx 0 0)) :: e) (h.put nx (.mem n [z])) := by subst hl; exact Stp.alloc hn hg
theorem Stp.nilck {id i off : Nat} (hx : ev e x = some (.ptr id i off)) (hg : met e g) : Stp ⟨some d, .nilck x, g⟩ e h ((d, some (.ptr id i off)) :: e) h :=
  Stp.ins (r := some (.ptr id i off)) (f := .none) (by simp [evalI, hx]) hg
theorem Stp.nilcki {s : Nat} {c : List (List AV)} {i off : Nat} (hx : ev e x = some (.iptr s c i off)) (hg : met e g) : Stp ⟨some d, .nilck x, g⟩ e h ((d, some (.iptr s c i off)) :: e) h :=
  Stp.ins (r := some (.iptr s c i off)) (f := .none) (by simp [evalI, hx]) hg
theorem Stp.nilckf {f : Nat} {us ts : List AV} (hx : ev e x = some (.func (.func f) us ts)) (hg : met e g) : Stp ⟨some d, .nilck x, g⟩ e h ((d, some (.func (.func f) us ts)) :: e) h :=
  Stp.ins (r := some (.func (.func f) us ts)) (f := .none) (by simp [evalI, hx]) hg
theorem Stp.nilck0 {f : Nat} {us ts : List AV} (hx : ev e x = some (.func (.func f) us ts)) (hg : met e g) : Stp ⟨none, .nilck x, g⟩ e h e h :=
  Stp.ins (r := some (.func (.func f) us ts)) (f := .none) (by simp [evalI, hx]) hg
theorem Stp.nilckp0 {id i off : Nat} (hx : ev e x = some (.ptr id i off)) (hg : met e g) : Stp ⟨none, .nilck x, g⟩ e h e h :=
  Stp.ins (r := some (.ptr id i off)) (f := .none) (by simp [evalI, hx]) hg
theorem Stp.bin {op : BinOp} (hx : ev e x = some (.int k a)) (hy : ev e y = some (.int k b)) (hv : binA op k a b = some v) (hg : met e g) : Stp ⟨some d, .bin op x y, g⟩ e h ((d, some v) :: e) h :=
  Stp.ins (r := some v) (f := .none) (by simp [evalI, hx, hy, hv]) hg
theorem Stp.sh {op : BinOp} (hx : ev e x = some (.int k a)) (hy : ev e y = some (.int k' b)) (hv : shA op k a b = some v) (hg : met e g) : Stp ⟨some d, .sh op x y, g⟩ e h ((d, some v) :: e) h :=
  Stp.ins (r := some v) (f := .none) (by simp [evalI, hx, hy, hv]) hg
theorem Stp.eqv {ek : EK} {neg t : Bool} (hx : ev e x = some u) (hy : ev e y = some v) (hv : eqA ek u v = some t) (hg : met e g) : Stp ⟨some d, .eqv ek neg x y, g⟩ e h ((d, some (.bool (if neg then !t else t))) :: e) h :=
  Stp.ins (r := some (.bool (if neg then !t else t))) (f := .none) (by simp [evalI, hx, hy, hv]) hg
theorem Stp.eqvT {ek : EK} {t : Bool} (hx : ev e x = some u) (hy : ev e y = some v) (hv : eqA ek u v = some t) (hg : met e g) : Stp ⟨some d, .eqv ek false x y, g⟩ e h ((d, some (.bool t)) :: e) h := Stp.eqv hx hy hv hg
theorem Stp.eqvF {ek : EK} {t : Bool} (hx : ev e x = some u) (hy : ev e y = some v) (hv : eqA ek u v = some t) (hg : met e g) : Stp ⟨some d, .eqv ek true x y, g⟩ e h ((d, some (.bool (!t))) :: e) h := Stp.eqv hx hy hv hg
theorem Stp.isnil {neg t : Bool} (hx : ev e x = some u) (hv : isNilA u = some t) (hg : met e g) : Stp ⟨some d, .isnil neg x, g⟩ e h ((d, some (.bool (if neg then !t else t))) :: e) h :=
  Stp.ins (r := some (.bool (if neg then !t else t))) (f := .none) (by simp [evalI, hx, hv]) hg
theorem Stp.not {t : Bool} (hx : ev e x = some (.bool t)) (hg : met e g) : Stp ⟨some d, .not x, g⟩ e h ((d, some (.bool (!t))) :: e) h :=
  Stp.ins (r := some (.bool (!t))) (f := .none) (by simp [evalI, hx]) hg
theorem Stp.conv (hx : ev e x = some (.int k' a)) (hv : k.wrap a = b) (hg : met e g) : Stp ⟨some d, .conv k x, g⟩ e h ((d, some (.int k b)) :: e) h :=
  Stp.ins (r := some (.int k b)) (f := .none) (by simp [evalI, hx, hv]) hg
theorem Stp.b2s {c : List (List AV)} {s : List UInt8} (hx : ev e x = some u) (hc : rdS h.get 1 u = some c) (hs : toB c = some s) (hg : met e g) : Stp ⟨some d, .b2s x, g⟩ e h ((d, some (.str s)) :: e) h :=
  Stp.ins (r := some (.str s)) (f := .none) (by simp [evalI, hx, hc, hs]) hg
theorem Stp.mkf {fn : Fn} {xs ys : List Opd} {vs us : List AV} (hx : evL e xs = some vs) (hy : evL e ys = some us) (hg : met e g) : Stp ⟨some d, .mkf fn xs ys, g⟩ e h ((d, some (.func fn vs us)) :: e) h :=
  Stp.ins (r := some (.func fn vs us)) (f := .none) (by simp [evalI, hx, hy]) hg
theorem Stp.mksl {sz bytes n : Nat} {z : List AV} (hx : ev e x = some (.int k a)) (hy : ev e y = some (.int k' b)) (ha : a = n) (hb : b = n) (hm : n * bytes ≤ 140737488355328) {nx : Nat} (hn : h.next = nx) (hg : met e g) : Stp ⟨some d, .mksl sz z bytes x y, g⟩ e h ((d, some (.ref nx 0 n)) :: e) (h.put nx (.mem sz (List.replicate n z))) := by
  subst hn
  subst ha; subst hb
  refine Stp.ins (r := some (.ref h.next 0 n)) (f := .new (.mem sz (List.replicate n z))) ?_ hg
  simp only [evalI, hx, hy]
  rw [req_pos ⟨by omega, trivial, by omega⟩]
  simp
theorem Stp.faddr {o id i off : Nat} (hx : ev e x = some (.ptr id i off)) (hg : met e g) : Stp ⟨some d, .faddr o x, g⟩ e h ((d, some (.ptr id i (off + o))) :: e) h :=
  Stp.ins (r := some (.ptr id i (off + o))) (f := .none) (by simp [evalI, hx]) hg
theorem Stp.faddri {o s i off : Nat} {c : List (List AV)} (hx : ev e x = some (.iptr s c i off)) (hg : met e g) : Stp ⟨some d, .faddr o x, g⟩ e h ((d, some (.iptr s c i (off + o))) :: e) h :=
  Stp.ins (r := some (.iptr s c i (off + o))) (f := .none) (by simp [evalI, hx]) hg
theorem Stp.fld {off sz : Nat} {ag : Bool} {cells : List AV} (hx : ev e x = some (.agg cells)) (hv : getC sz ag cells off = some v) (hg : met e g) : Stp ⟨some d, .fld off sz ag x, g⟩ e h ((d, some v) :: e) h :=
  Stp.ins (r := some v) (f := .none) (by simp [evalI, hx, hv]) hg
theorem Stp.iaddrI {sz i : Nat} {c : List (List AV)} (hx : ev e x = some (.imm sz c)) (hy : ev e y = some (.int k a)) (ha : a = i) (hi : i < c.length) (hg : met e g) : Stp ⟨some d, .iaddr sz x y, g⟩ e h ((d, some (.iptr sz c i 0)) :: e) h := by
  subst ha
  refine Stp.ins (r := some (.iptr sz c i 0)) (f := .none) ?_ hg
  simp only [evalI, hx, hy]
  rw [req_pos ⟨trivial, by omega, by omega⟩]
  simp
theorem Stp.iaddrP {id gn sz i : Nat} {c : List (List AV)} (hx : ev e x = some (.app id gn sz c)) (hy : ev e y = some (.int k a)) (ha : a = i) (hi : i < c.length) (hg : met e g) : Stp ⟨some d, .iaddr sz x y, g⟩ e h ((d, some (.iptr sz c i 0)) :: e) h := by
  subst ha
  refine Stp.ins (r := some (.iptr sz c i 0)) (f := .none) ?_ hg
  simp only [evalI, hx, hy]
  rw [req_pos ⟨trivial, by omega, by omega⟩]
  simp
theorem Stp.iaddrR {id sz i off n : Nat} {c : List (List AV)} (hx : ev e x = some (.ref id off n)) (hy : ev e y = some (.int k a)) (hm : h.get id = some (.mem sz c)) (ha : a = i) (hi : i < n) (hg : met e g) : Stp ⟨some d, .iaddr sz x y, g⟩ e h ((d, some (.ptr id (off + i) 0)) :: e) h := by
  subst ha
  refine Stp.ins (r := some (.ptr id (off + i) 0)) (f := .none) ?_ hg
  simp only [evalI, hx, hy, hm]
  rw [req_pos ⟨trivial, by omega, by omega⟩]
  simp
theorem Stp.iaddrA {n sz i id j off : Nat} (hx : ev e x = some (.ptr id j off)) (hy : ev e y = some (.int k a)) (ha : a = i) (hi : i < n) (hg : met e g) : Stp ⟨some d, .iaddrA n sz x y, g⟩ e h ((d, some (.ptr id j (off + i * sz))) :: e) h := by
  subst ha
  refine Stp.ins (r := some (.ptr id j (off + i * sz))) (f := .none) ?_ hg
  simp only [evalI, hx, hy]
  rw [req_pos ⟨by omega, by omega⟩]
  simp
theorem Stp.iaddrAi {n sz i s j off : Nat} {c : List (List AV)} (hx : ev e x = some (.iptr s c j off)) (hy : ev e y = some (.int k a)) (ha : a = i) (hi : i < n) (hg : met e g) : Stp ⟨some d, .iaddrA n sz x y, g⟩ e h ((d, some (.iptr s c j (off + i * sz))) :: e) h := by
  subst ha
  refine Stp.ins (r := some (.iptr s c j (off + i * sz))) (f := .none) ?_ hg
  simp only [evalI, hx, hy]
  rw [req_pos ⟨by omega, by omega⟩]
  simp
theorem Stp.ext {n : Nat} {vs : List AV} (hx : ev e x = some (.tup vs)) (hv : vs[n]? = some v) (hg : met e g) : Stp ⟨some d, .ext n x, g⟩ e h ((d, some v) :: e) h :=
  Stp.ins (r := some v) (f := .none) (by simp [evalI, hx, hv]) hg
theorem Stp.len {n : Nat} (hx : ev e x = some u) (hn : rdL h.get u = some n) (hg : met e g) : Stp ⟨some d, .len x, g⟩ e h ((d, some (.int .i64 n)) :: e) h :=
  Stp.ins (r := some (.int .i64 n)) (f := .none) (by simp [evalI, hx, hn]) hg
theorem Stp.app0 {sz bytes n : Nat} {c : List (List AV)} (hx : ev e x = some .nils) (hy : ev e y = some v) (hc : rdS h.get sz v = some c) (hb : c.length * bytes ≤ 140737488355328) (hl : c.length = n) {nx : Nat} (hn : h.next = nx) (hg : met e g) : Stp ⟨some d, .app sz bytes x y, g⟩ e h ((d, some (.app nx 0 sz c)) :: e) (h.put nx (.tail 0 n)) := by
  subst hn hl
  exact Stp.ins (r := some (.app h.next 0 sz c)) (f := .new (.tail 0 c.length)) (by simp only [evalI, hx, hy, hc]; rw [req_pos hb]) hg
theorem Stp.app1 {sz bytes id k n n' : Nat} {c c' : List (List AV)} (hx : ev e x = some (.app id k sz c')) (hy : ev e y = some v) (hc : rdS h.get sz v = some c) (ht : h.get id = some (.tail k n)) (hl : c'.length = n) (hl' : n + c.length = n') (hb : n' * bytes ≤ 140737488355328) (hg : met e g) : Stp ⟨some d, .app sz bytes x y, g⟩ e h ((d, some (.app id k sz (c' ++ c))) :: e) (h.set id (some (.tail k n'))) := by
  subst hl' hl
  exact Stp.ins (r := some (.app id k sz (c' ++ c))) (f := .set id (.tail k (c'.length + c.length))) (by simp only [evalI, hx, hy, hc, ht]; rw [req_pos ⟨trivial, trivial, trivial, hb⟩]) hg
theorem Stp.cpy {sz id off n : Nat} {c cs : List (List AV)} (hx : ev e x = some (.ref id off n)) (hy : ev e y = some v) (hm : h.get id = some (.mem sz c)) (hc : rdS h.get sz v = some cs) (hb : off + n ≤ c.length) (hg : met e g) : Stp ⟨some d, .cpy sz x y, g⟩ e h ((d, some (.int .i64 ((min cs.length n : Nat) : Int))) :: e) (h.set id (some (.mem sz (c.take off ++ cs.take (min cs.length n) ++ c.drop (off + min cs.length n))))) :=
  Stp.ins (r := some (.int .i64 ((min cs.length n : Nat) : Int))) (f := .set id (.mem sz (c.take off ++ cs.take (min cs.length n) ++ c.drop (off + min cs.length n)))) (by simp only [evalI, hx, hy, hm, hc]; rw [req_pos ⟨trivial, hb⟩]) hg
theorem Stp.cpy0 {sz id off n : Nat} {c cs : List (List AV)} (hx : ev e x = some (.ref id off n)) (hy : ev e y = some v) (hm : h.get id = some (.mem sz c)) (hc : rdS h.get sz v = some cs) (hb : off + n ≤ c.length) (hg : met e g) : Stp ⟨none, .cpy sz x y, g⟩ e h e (h.set id (some (.mem sz (c.take off ++ cs.take (min cs.length n) ++ c.drop (off + min cs.length n))))) :=
  Stp.ins (r := some (.int .i64 ((min cs.length n : Nat) : Int))) (f := .set id (.mem sz (c.take off ++ cs.take (min cs.length n) ++ c.drop (off + min cs.length n)))) (by simp only [evalI, hx, hy, hm, hc]; rw [req_pos ⟨trivial, hb⟩]) hg
theorem Stp.mn (hx : ev e x = some (.int k a)) (hy : ev e y = some (.int k b)) (hg : met e g) : Stp ⟨some d, .mn x y, g⟩ e h ((d, some (.int k (if b < a then b else a))) :: e) h :=
  Stp.ins (r := some (.int k (if b < a then b else a))) (f := .none) (by simp [evalI, hx, hy]) hg
theorem Stp.slcI {sz i j : Nat} {lo hi : Option Opd} {c : List (List AV)} (hx : ev e x = some (.imm sz c)) (hl : bnd e 0 lo = some i) (hh : bnd e c.length hi = some j) (h1 : i ≤ j) (h2 : j ≤ c.length) (hg : met e g) : Stp ⟨some d, .slc sz x lo hi, g⟩ e h ((d, some (.imm sz ((c.take j).drop i))) :: e) h :=
  Stp.ins (r := some (.imm sz ((c.take j).drop i))) (f := .none) (by simp only [evalI, hx, hl, hh]; rw [req_pos ⟨trivial, h1, h2⟩]) hg
theorem Stp.slcN {sz i j : Nat} {lo hi : Option Opd} (hx : ev e x = some .nils) (hl : bnd e 0 lo = some i) (hh : bnd e 0 hi = some j) (h1 : i = 0) (h2 : j = 0) (hg : met e g) : Stp ⟨some d, .slc sz x lo hi, g⟩ e h ((d, some .nils) :: e) h := by
  subst h1 h2
  exact Stp.ins (r := some .nils) (f := .none) (by simp only [evalI, hx, hl, hh]; rw [req_pos ⟨trivial, trivial⟩]) hg
theorem Stp.slcP {id gn sz i j : Nat} {lo hi : Option Opd} {c : List (List AV)} (hx : ev e x = some (.app id gn sz c)) (hl : bnd e 0 lo = some i) (hh : bnd e c.length hi = some j) (h1 : i ≤ j) (h2 : j ≤ c.length) (hg : met e g) : Stp ⟨some d, .slc sz x lo hi, g⟩ e h ((d, some (.imm sz ((c.take j).drop i))) :: e) h :=
  Stp.ins (r := some (.imm sz ((c.take j).drop i))) (f := .none) (by simp only [evalI, hx, hl, hh]; rw [req_pos ⟨trivial, h1, h2⟩]) hg
theorem Stp.slcR {id off n sz i j : Nat} {lo hi : Option Opd} {c : List (List AV)} (hx : ev e x = some (.ref id off n)) (hm : h.get id = some (.mem sz c)) (hl : bnd e 0 lo = some i) (hh : bnd e n hi = some j) (h1 : i ≤ j) (h2 : j ≤ n) (hg : met e g) : Stp ⟨some d, .slc sz x lo hi, g⟩ e h ((d, some (.ref id (off + i) (j - i))) :: e) h :=
  Stp.ins (r := some (.ref id (off + i) (j - i))) (f := .none) (by simp only [evalI, hx, hm, hl, hh]; rw [req_pos ⟨trivial, h1, h2⟩]) hg
theorem bnd_none {n : Nat} : bnd e n none = some n := rfl
theorem bnd_some {n i : Nat} (hx : ev e x = some (.int k a)) (ha : a = i) : bnd e n (some x) = some i := by
  subst ha
  simp only [bnd, hx]
  rw [req_pos (by omega)]
  simp

/-! ### what binA answers -/
theorem wrap_in {k : IntKind} {n : Int} (hn : match k with | .i64 => -9223372036854775808 ≤ n ∧ n ≤ 9223372036854775807 | .u64 => 0 ≤ n ∧ n ≤ 18446744073709551615 | .u8 => 0 ≤ n ∧ n ≤ 255 | .u32 => 0 ≤ n ∧ n ≤ 4294967295 | _ => False) : k.wrap n = n := by
  cases k <;> simp only at hn
  all_goals first
    | exact IntWalk.i64_in n hn
    | exact IntWalk.u64_in n hn
    | exact IntWalk.u8_in n hn
    | (unfold IntKind.wrap; simp [IntKind.bits, IntKind.signed]; omega)
    | exact hn.elim
theorem i64_add {a b : Int} (hn : -9223372036854775808 ≤ a + b ∧ a + b ≤ 9223372036854775807) : binA .add .i64 a b = some (.int .i64 (a + b)) := by simp only [binA]; rw [IntWalk.i64_in _ hn]
theorem i64_sub {a b : Int} (hn : -9223372036854775808 ≤ a - b ∧ a - b ≤ 9223372036854775807) : binA .sub .i64 a b = some (.int .i64 (a - b)) := by simp only [binA]; rw [IntWalk.i64_in _ hn]
theorem i64_mul {a b : Int} (hn : -9223372036854775808 ≤ a * b ∧ a * b ≤ 9223372036854775807) : binA .mul .i64 a b = some (.int .i64 (a * b)) := by simp only [binA]; rw [IntWalk.i64_in _ hn]
theorem i64_quo {a b : Int} (ha : 0 ≤ a ∧ a ≤ 9223372036854775807) (hb : 0 < b) : binA .quo .i64 a b = some (.int .i64 (a / b)) := by
  simp only [binA]
  rw [req_pos (by omega), Int.tdiv_eq_ediv_of_nonneg ha.1, IntWalk.i64_in]
  have h1 := Int.ediv_nonneg ha.1 (by omega : 0 ≤ b)
  have h2 := Int.ediv_le_self b ha.1
  omega
theorem i64_rem {a b : Int} (ha : 0 ≤ a) (hb : 0 < b) : binA .rem .i64 a b = some (.int .i64 (a % b)) := by
  simp only [binA]
  rw [req_pos (by omega), Int.tmod_eq_emod_of_nonneg ha]
theorem inc1 {k : Nat} (hk : k < 9223372036854775807) : binA .add .i64 (k : Int) 1 = some (.int .i64 ((k + 1 : Nat) : Int)) := by rw [i64_add (by omega)]; simp
theorem div2 {k : Nat} (hk : k < 9223372036854775808) : binA .quo .i64 (k : Int) 2 = some (.int .i64 ((k / 2 : Nat) : Int)) := by rw [i64_quo (by omega) (by omega)]; simp
theorem u64_add {a b : Int} (hn : 0 ≤ a + b ∧ a + b ≤ 18446744073709551615) : binA .add .u64 a b = some (.int .u64 (a + b)) := by simp only [binA]; rw [IntWalk.u64_in _ hn]
theorem u64_sub {a b : Int} (hn : 0 ≤ a - b ∧ a - b ≤ 18446744073709551615) : binA .sub .u64 a b = some (.int .u64 (a - b)) := by simp only [binA]; rw [IntWalk.u64_in _ hn]
theorem u64_mul {a b : Int} (hn : 0 ≤ a * b ∧ a * b ≤ 18446744073709551615) : binA .mul .u64 a b = some (.int .u64 (a * b)) := by simp only [binA]; rw [IntWalk.u64_in _ hn]

/-! ### bits -/
theorem bits_xor_i64_nat (a b : Nat) (ha : a < 9223372036854775808) (hb : b < 9223372036854775808) : bits .xor .i64 (a : Int) (b : Int) = ((a ^^^ b : Nat) : Int) := by
  have hx : a ^^^ b < 2 ^ 63 := Nat.xor_lt_two_pow (by omega) (by omega)
  have h1 : (BitVec.ofInt 64 (a : Int)).toNat = a := by
    rw [BitVec.ofInt_natCast, BitVec.toNat_ofNat]; exact Nat.mod_eq_of_lt (by omega)
  have h2 : (BitVec.ofInt 64 (b : Int)).toNat = b := by
    rw [BitVec.ofInt_natCast, BitVec.toNat_ofNat]; exact Nat.mod_eq_of_lt (by omega)
  show IntKind.i64.wrap ((BitVec.ofInt 64 (a : Int) ^^^ BitVec.ofInt 64 (b : Int)).toNat : Int) = _
  rw [BitVec.toNat_xor, h1, h2, IntKind.wrap_i64]
  omega
theorem bits_and_i64_nat (a b : Nat) (ha : a < 9223372036854775808) (hb : b < 9223372036854775808) : bits .and .i64 (a : Int) (b : Int) = ((a &&& b : Nat) : Int) := by
  have hx : a &&& b < 2 ^ 63 := Nat.and_lt_two_pow _ (by omega)
  have h1 : (BitVec.ofInt 64 (a : Int)).toNat = a := by
    rw [BitVec.ofInt_natCast, BitVec.toNat_ofNat]; exact Nat.mod_eq_of_lt (by omega)
  have h2 : (BitVec.ofInt 64 (b : Int)).toNat = b := by
    rw [BitVec.ofInt_natCast, BitVec.toNat_ofNat]; exact Nat.mod_eq_of_lt (by omega)
  show IntKind.i64.wrap ((BitVec.ofInt 64 (a : Int) &&& BitVec.ofInt 64 (b : Int)).toNat : Int) = _
  rw [BitVec.toNat_and, h1, h2, IntKind.wrap_i64]
  omega
theorem xor1 (k : Nat) (hk : k < 9223372036854775808) : binA .xor .i64 (k : Int) 1 = some (.int .i64 ((k ^^^ 1 : Nat) : Int)) :=
  congrArg (fun x => some (AV.int .i64 x)) (bits_xor_i64_nat k 1 hk (by omega))
theorem and1 (k : Nat) (hk : k < 9223372036854775808) : binA .and .i64 (k : Int) 1 = some (.int .i64 ((k % 2 : Nat) : Int)) := by
  have := congrArg (fun x => some (AV.int .i64 x)) (bits_and_i64_nat k 1 hk (by omega))
  rw [Nat.and_one_is_mod] at this
  exact this

/-! ### branches on what isn't known yet -/
theorem AW.condB {c : Opd} {x y : CC} {t : Bool} (hc : ev e c = some (.bool t)) (h1 : t = true → AW P N x Q e h) (h2 : t = false → AW P N y Q e h) : AW P N (.cond c x y) Q e h := by
  cases t
  · exact AW.condF hc (h2 rfl)
  · exact AW.condT hc (h1 rfl)
/-- A slot's truth, known from here. -/
theorem AL.pin {s : Nat} {t : Bool} (hc : lk s e = some (.bool t)) (h1 : t = true → AL P N l Q ((s, some (.bool true)) :: e) h) (h2 : t = false → AL P N l Q ((s, some (.bool false)) :: e) h) : AL P N l Q e h := by
  have key : ∀ b, t = b → ∀ i v, lk i ((s, some (.bool b)) :: e) = some v → lk i e = some v := fun b hb i v hi => by
    simp only [lk_cons, lk_nil] at hi
    split at hi
    · rename_i e1; subst e1; rw [← hi, hc, hb]
    · exact hi
  cases t
  · exact AL.env (key false rfl) (h2 rfl)
  · exact AL.env (key true rfl) (h1 rfl)
theorem AL.endL (hq : Q .normal e h) : AL P N [] Q e h := AL.nil hq
theorem get_put_neE {id nm : Nat} {x : AObj} {r : Option AObj} (hne : id ≠ nm) (hr : h.get id = r) : (h.put nm x).get id = r := (get_put_ne hne).trans hr
theorem get_set_neE {id nm : Nat} {x r : Option AObj} (hne : id ≠ nm) (hr : h.get id = r) : (h.set nm x).get id = r := (get_set_ne hne).trans hr
theorem next_putE {nm : Nat} {x : AObj} (hn : h.next = nm) : (h.put nm x).next = nm + 1 := by subst hn; simp [AHeap.put]
theorem next_setE {nm n : Nat} {x : Option AObj} (hn : h.next = n) : (h.set nm x).next = n := hn
theorem getC_at {sz : Nat} {cells : List AV} {off : Nat} (hx : cells[off]? = some v) (h1 : sz = 1) : getC sz false cells off = some v := by
  have := (List.getElem?_eq_some_iff.1 hx).1
  subst h1
  simp only [getC]
  rw [if_pos (by omega)]
  simpa using hx
theorem getC_all {sz : Nat} {cells : List AV} (hl : cells.length = sz) : getC sz true cells 0 = some (.agg cells) := by
  subst hl; simp [getC]
theorem getC_sub {sz off : Nat} {cells cs : List AV} (hl : off + sz ≤ cells.length) (hc : (cells.drop off).take sz = cs) : getC sz true cells off = some (.agg cs) := by
  subst hc; simp [getC, hl]
theorem AL.auto {c : CI} {e' : Env} {h' : AHeap} (hs : Stp c e h e' h') (k : AL P N l Q e' h') : AL P N (c :: l) Q e h := AL.step hs.ok k
/-- The next instruction's guard, one way and the other. -/
theorem AL.split {dd : Option Nat} {i : Ins} {s : Nat} {b t : Bool} (hc : lk s e = some (.bool t)) (h1 : t = true → AL P N (⟨dd, i, some (s, b)⟩ :: l) Q ((s, some (.bool true)) :: e) h) (h2 : t = false → AL P N (⟨dd, i, some (s, b)⟩ :: l) Q ((s, some (.bool false)) :: e) h) : AL P N (⟨dd, i, some (s, b)⟩ :: l) Q e h := AL.pin hc h1 h2
theorem clo_b {h h1 : AHeap} {a b : Bool} (hab : a = b) : Fz h h1 (fin [.bool a]) (.bool b) := by subst hab; exact .clo _ (.bool _)
theorem clo_i {h h1 : AHeap} {k : IntKind} {a b : Int} (hab : a = b) : Fz h h1 (fin [.int k a]) (.int k b) := by subst hab; exact .clo _ (.int _ _)
theorem rdS_ref {g : Nat → Option AObj} {id sz off len : Nat} {c : List (List AV)} (hg : g id = some (.mem sz c)) : rdS g sz (.ref id off len) = some ((c.drop off).take len) := by
  simp [rdS, hg]
theorem ln0_one {α : Type} {x : α} : [x].length = 1 := rfl
theorem ln0_map {α β : Type} {f : α → β} {xs : List α} : (xs.map f).length = xs.length := List.length_map ..
theorem ln_one {α : Type} {x : α} {n : Nat} : n + [x].length = n + 1 := rfl
theorem ln_map {α β : Type} {f : α → β} {xs : List α} {n : Nat} : n + (xs.map f).length = n + xs.length := by simp
theorem rdL_map {α : Type} {g : Nat → Option AObj} {sz : Nat} {f : α → List AV} {xs : List α} : rdL g (.imm sz (xs.map f)) = some xs.length := by simp [rdL]
theorem rdL_mapA {α : Type} {g : Nat → Option AObj} {id gn sz : Nat} {f : α → List AV} {xs : List α} : rdL g (.app id gn sz (xs.map f)) = some xs.length := by simp [rdL]
theorem ix2 (k : Nat) : (2 : Int) * (k : Int) = ((2 * k : Nat) : Int) := by omega
theorem ix21 (k : Nat) : (2 : Int) * (k : Int) + 1 = ((2 * k + 1 : Nat) : Int) := by omega
theorem map_at {α : Type} {f : α → List AV} {xs : List α} {i : Nat} {x : α} (hx : xs[i]? = some x) : (xs.map f)[i]? = some (f x) := by simp [hx]
theorem map_app {α : Type} {f : α → List AV} {xs ys : List α} : xs.map f ++ ys.map f = (xs ++ ys).map f := by simp
theorem AL.callM {dd : Option Nat} {f : Nat} {xs : List Opd} {vs : List AV} (hv : evL e xs = some vs) (hg : met e g) (hac : AC P f vs h (fun r h' => AL P N l Q (putR dd (some r) e) h')) : AL P N (⟨dd, .call f xs, g⟩ :: l) Q e h := by
  cases g with
  | none => exact AL.call hv hac
  | some sb => exact AL.gcall hg hv hac
end
end Go.Abs
