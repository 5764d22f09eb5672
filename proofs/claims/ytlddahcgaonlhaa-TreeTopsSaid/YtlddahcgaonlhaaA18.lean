/- The abstract layer, part 18: how walks end; bits. -/
import Derived.Test.YtlddahcgaonlhaaA17
set_option linter.all false
namespace Go.Abs
open Go

section
variable {P : Program} {N f : Nat} {e : Env} {h h1 : AHeap} {cc : CC} {rcs : List RC} {vs rs : List AV} {v r : AV}

theorem resA_nil {g : Nat → Option AObj} : resA g e [] = some [] := rfl
theorem resA_t {g : Nat → Option AObj} {n : Nat} {rc : List RC} (hv : lk n e = some v) (hr : resA g e rc = some rs) : resA g e (.t n :: rc) = some (v :: rs) := by simp [resA, resOne, hv, hr]
theorem resA_c {n sz s id off : Nat} {ag : Bool} {cells : List AV} {rc : List RC} (hn : lk n e = some (.ptr id 0 off)) (hg : h.get id = some (.mem s [cells])) (hc : getC sz ag cells off = some v) (hr : resA h.get e rc = some rs) : resA h.get e (.cell n sz ag :: rc) = some (v :: rs) := by
  simp [resA, resOne, hn, rdP, hg, hc, hr]

/-- The end of a function that only computes. -/
structure PureQ (h : AHeap) (rcs : List RC) (r : AV) (ex : Exit) (e : Env) (h1 : AHeap) : Prop where
  ex : ex = .ret ∨ ex = .normal
  keeps : Keeps h h1
  res : ∃ rs, resA h1.get e rcs = some rs ∧ Fz h h1 (fin rs) r
theorem PureQ.fin {x : Exit} (hex : x = .ret ∨ x = .normal) (hk : Keeps h h1) (hr : resA h1.get e rcs = some rs) (hf : Fz h h1 (Go.Abs.fin rs) r) : PureQ h rcs r x e h1 := ⟨hex, hk, rs, hr, hf⟩
theorem AE.pureQ (hfn : FnIs P f N cc rcs) (hn : vs.length ≤ N) (hw : AW P N cc (PureQ h rcs r) (argE 0 vs) h) : AE P f vs h r h :=
  AE.pure hfn hn (hw.mono fun _ _ _ q => ⟨q.ex, q.keeps, q.res⟩)

theorem Fz.tup2 {a b a' b' : AV} (ha : Fz h h1 a a') (hb : Fz h h1 b b') : Fz h h1 (.tup [a, b]) (.tup [a', b']) :=
  .tup _ _ rfl fun i x y hx hy => by
    rcases i with _ | _ | i
    · simp at hx hy; subst hx; subst hy; exact ha
    · simp at hx hy; subst hx; subst hy; exact hb
    · simp at hx
theorem Fz.tup3 {a b c a' b' c' : AV} (ha : Fz h h1 a a') (hb : Fz h h1 b b') (hc : Fz h h1 c c') : Fz h h1 (.tup [a, b, c]) (.tup [a', b', c']) :=
  .tup _ _ rfl fun i x y hx hy => by
    rcases i with _ | _ | _ | i
    · simp at hx hy; subst hx; subst hy; exact ha
    · simp at hx hy; subst hx; subst hy; exact hb
    · simp at hx hy; subst hx; subst hy; exact hc
    · simp at hx
theorem fz_b {a b : Bool} (hab : a = b) : Fz h h1 (.bool a) (.bool b) := by subst hab; exact .clo _ (.bool _)
theorem fz_i {k : IntKind} {a b : Int} (hab : a = b) : Fz h h1 (.int k a) (.int k b) := by subst hab; exact .clo _ (.int _ _)
/-- Values that hold no names. -/
def AV.flat : AV → Bool
  | .bool _ | .int _ _ | .str _ => true
  | _ => false
theorem clo_flat {u : Nat → Prop} (hv : AV.flat v = true) : Clo u v := by
  cases v <;> first | (simp [AV.flat] at hv; done) | exact .bool _ | exact .int _ _ | exact .str _
theorem fz_agg {xs ys : List AV} (hab : xs = ys) (hf : ∀ v ∈ xs, AV.flat v = true) : Fz h h1 (.agg xs) (.agg ys) := by
  subst hab; exact .clo _ (.agg _ fun v hv => clo_flat (hf v hv))
def flatC (c : List (List AV)) : Prop := ∀ x ∈ c, ∀ v ∈ x, AV.flat v = true
theorem fz_app {id gn sz : Nat} {c c' : List (List AV)} (hc : c = c') (hf : flatC c) : Fz h h1 (.app id gn sz c) (.imm sz c') := by
  subst hc; exact .app _ _ _ _ fun x hx v hv => clo_flat (hf x hx v hv)
theorem fz_imm {sz : Nat} {c c' : List (List AV)} (hc : c = c') (hf : flatC c) : Fz h h1 (.imm sz c) (.imm sz c') := by
  subst hc; exact .clo _ (.imm _ _ fun x hx v hv => clo_flat (hf x hx v hv))
theorem fz_ref {id n sz : Nat} {c c' : List (List AV)} (hg : h1.get id = some (.mem sz c)) (hu : h.next ≤ id) (hl : c.length = n) (hc : c = c') (hf : flatC c) : Fz h h1 (.ref id 0 n) (.imm sz c') := by
  subst hc; subst hl
  have := Fz.ref (h := h) id 0 c.length sz c hg (fun hu' => by have := hu'.1; omega) fun x hx v hv => clo_flat (hf x hx v hv)
  simpa using this
theorem clo_imm {u : Nat → Prop} {sz : Nat} {c : List (List AV)} (hf : flatC c) : Clo u (.imm sz c) := .imm _ _ fun x hx v hv => clo_flat (hf x hx v hv)
theorem flatC_map {α : Type} {f : α → List AV} {l : List α} (hf : ∀ a, ∀ v ∈ f a, AV.flat v = true) : flatC (l.map f) := by
  intro x hx v hv
  obtain ⟨a, _, rfl⟩ := List.mem_map.1 hx
  exact hf a v hv

end
end Go.Abs
