/- The abstract layer, part 14: rules in the form in which walks use them. -/
import Derived.Test.YtlddahcgaonlhaaA13
set_option linter.all false
namespace Go.Abs
open Go

section
variable {P : Program} {N : Nat} {Q : Exit → Env → AHeap → Prop} {e : Env} {h : AHeap}

theorem AE.use {f : Nat} {vs : List AV} {r : AV} {h' : AHeap} {K : AV → AHeap → Prop} (hae : AE P f vs h r h') (hk : K r h') : AC P f vs h K :=
  hae.mono fun r1 h1 ⟨e1, e2⟩ => by subst e1; subst e2; exact hk

theorem AW.condT {c : Opd} {x y : CC} (hc : ev e c = some (.bool true)) (hw : AW P N x Q e h) : AW P N (.cond c x y) Q e h := AW.cond hc (by simpa using hw)
theorem AW.condF {c : Opd} {x y : CC} (hc : ev e c = some (.bool false)) (hw : AW P N y Q e h) : AW P N (.cond c x y) Q e h := AW.cond hc (by simpa using hw)

/-- A guarded call whose guard is met. -/
theorem AL.gcall {d : Option Nat} {f : Nat} {xs : List Opd} {l : List CI} {vs : List AV} {s : Nat} {b : Bool} (hg : lk s e = some (.bool b)) (hv : evL e xs = some vs) (hac : AC P f vs h (fun r h' => AL P N l Q (putR d (some r) e) h')) : AL P N (⟨d, .call f xs, some (s, b)⟩ :: l) Q e h := by
  intro ops idx hlt hl m w a hr he
  cases idx with
  | nil => simp at hl
  | cons i idx =>
    simp only [List.map_cons, List.cons.injEq] at hl
    obtain ⟨hc, hl⟩ := hl
    have hilt := hlt i (by simp)
    have ho : ops[i]? = some ops[i] := Array.getElem?_eq_getElem hilt
    have hget : ops.getD i default = ops[i] := by simp [hilt]
    rw [hget] at hc
    have hlt' : ∀ j ∈ idx, j < ops.size := fun j hj => hlt j (by simp [hj])
    rcases compI_ok hc with ⟨hb1, hb2⟩ | ⟨hd, hdst, hcomp, hgd⟩
    · simp at hb1
    · obtain ⟨_, w2⟩ := wanted_of he hgd
      simp only [wpOps, ho]
      rw [w2 s b b rfl hg, if_pos (by simp)]
      left
      have hco := hcomp rfl
      obtain ⟨c, hop, hcal, hfn, hxs⟩ := compile_call hco
      obtain ⟨hl1, hl2⟩ := he.evalL hxs hv
      have hrun : (execOp a.eval (ops[i])).run P w = .ok (.enter f (c.args.map a.eval)) w := by
        simp [execOp, hop, resolve, hcal, Act.eval, Deferred.ofValue, invoke, run_callFunc hfn]
      refine call_wp hrun hr (by simpa using hl1) (fun j v hj => by
        have := hl2 j v hj
        simpa [Array.getD_eq_getD_getElem?, List.getD_eq_getElem?_getD] using this) hac fun v w' m' r h' g1 g2 g3 g4 => ?_
      refine wpOps_mono (fun _ _ _ hp => PA.from g3 hp) idx _ _ (g4 ops idx hlt' hl m' w' _ g1 ?_)
      have hd' : d = (ops[i]).dst := hd
      rw [hd']
      exact (he.step g3).putR hdst g2

theorem get_put (h : AHeap) (nm : Nat) (x : AObj) (id : Nat) : (h.put nm x).get id = if id = nm then some x else h.get id := rfl
theorem get_set (h : AHeap) (nm : Nat) (x : Option AObj) (id : Nat) : (h.set nm x).get id = if id = nm then x else h.get id := rfl
theorem get_put_same {h : AHeap} {nm : Nat} {x : AObj} : (h.put nm x).get nm = some x := by simp [AHeap.put]
theorem get_put_ne {h : AHeap} {nm : Nat} {x : AObj} {id : Nat} (hne : id ≠ nm) : (h.put nm x).get id = h.get id := by simp [AHeap.put, hne]
theorem get_set_same {h : AHeap} {nm : Nat} {x : Option AObj} : (h.set nm x).get nm = x := by simp [AHeap.set]
theorem get_set_ne {h : AHeap} {nm : Nat} {x : Option AObj} {id : Nat} (hne : id ≠ nm) : (h.set nm x).get id = h.get id := by simp [AHeap.set, hne]
theorem next_put (h : AHeap) (x : AObj) : (h.put h.next x).next = h.next + 1 := by simp [AHeap.put]
theorem next_set (h : AHeap) (nm : Nat) (x : Option AObj) : (h.set nm x).next = h.next := rfl
theorem lk_same {i : Nat} {v : Option AV} {e : Env} : lk i ((i, v) :: e) = v := by simp [lk_cons, lk_nil]
theorem lk_ne {i j : Nat} {v : Option AV} {e : Env} (hne : i ≠ j) : lk i ((j, v) :: e) = lk i e := by simp [lk_cons, hne]

theorem req_true {α : Type} {x : Option α} : req True x = x := rfl

/-- Slots that are forgotten: a check over the slots that are kept. -/
def subE (e' e : Env) : Prop := ∀ i v, lk i e' = some v → lk i e = some v
theorem subE.nil (e : Env) : subE [] e := fun i v h => by simp [lk_cons, lk_nil] at h
theorem subE.cons {i : Nat} {v : AV} {e' e : Env} (h1 : lk i e = some v) (h2 : subE e' e) : subE ((i, some v) :: e') e := fun j u hj => by
  simp only [lk_cons, lk_nil] at hj
  split at hj
  · rename_i e1; subst e1; rw [← hj]; exact h1
  · exact h2 j u hj
end
end Go.Abs
