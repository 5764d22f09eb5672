/- The abstract layer, part 17: what is known is turned, while the world stands still: a nil slice that may grow, a slice that is written no more. -/
import Derived.Test.YtlddahcgaonlhaaA16
set_option linter.all false
namespace Go.Abs
open Go

section
variable {P : Program} {N : Nat} {Q : Exit → Env → AHeap → Prop} {e e' e'' : Env} {h h' h'' : AHeap} {l : List CI} {c : CC}

/-- What is known, told in another way. -/
def Cvt (e : Env) (h : AHeap) (e' : Env) (h' : AHeap) : Prop :=
  ∀ (N : Nat) (m : Inj) (w : World) (a : Act), HR m h w → ER N m h w e a → ∃ m', HR m' h' w ∧ ER N m' h' w e' a ∧ Step m h w m' h' w
theorem Cvt.refl : Cvt e h e h := fun _ m _ _ hr he => ⟨m, hr, he, Step.refl _ _ _⟩
theorem Cvt.trans (h1 : Cvt e h e' h') (h2 : Cvt e' h' e'' h'') : Cvt e h e'' h'' := fun N m w a hr he => by
  obtain ⟨m1, r1, e1, s1⟩ := h1 N m w a hr he
  obtain ⟨m2, r2, e2, s2⟩ := h2 N m1 w a r1 e1
  exact ⟨m2, r2, e2, s1.trans s2⟩
theorem AW.cvt (hc : Cvt e h e' h') (hw : AW P N c Q e' h') : AW P N c Q e h := fun code hcc m w a hr he => by
  obtain ⟨m1, r1, e1, s1⟩ := hc N m w a hr he
  exact wp_mono (hw code hcc m1 w a r1 e1) fun _ _ _ hp => PA.from s1 hp
theorem AL.cvt (hc : Cvt e h e' h') (hw : AL P N l Q e' h') : AL P N l Q e h := fun ops idx h1 h2 m w a hr he => by
  obtain ⟨m1, r1, e1, s1⟩ := hc N m w a hr he
  exact wpOps_mono (fun _ _ _ hp => PA.from s1 hp) idx _ _ (hw ops idx h1 h2 m1 w a r1 e1)
theorem Cvt.sub (hs : subE e' e) : Cvt e h e' h := fun _ m _ _ hr he => ⟨m, hr, ⟨he.size, he.defers, fun i v hi => he.val i v (hs i v hi)⟩, Step.refl _ _ _⟩
theorem Cvt.put {i : Nat} {v : AV} (hv : ∀ (N : Nat) (m : Inj) (w : World) (a : Act), HR m h w → ER N m h w e a → VR m h w v (a.tmps.getD i undef)) : Cvt e h ((i, some v) :: e) h := fun N m w a hr he =>
  ⟨m, hr, ⟨he.size, he.defers, fun j u hj => by
    simp only [lk_cons, lk_nil] at hj
    split at hj
    · rename_i e1; subst e1; cases hj; exact hv N m w a hr he
    · exact he.val j u hj⟩, Step.refl _ _ _⟩

theorem tok_new {id g n : Nat} {p : Prop} (hp : p) : TokC (h.put id (.tail g n)) id g n p := fun g' n' hg => by
  simp only [AHeap.put, if_true, Option.some.injEq, AObj.tail.injEq] at hg
  exact ⟨by omega, fun _ => ⟨by omega, fun _ => hp⟩⟩
theorem tok_set {id g n : Nat} {p : Prop} (hp : p) : TokC (h.set id (some (.tail g n))) id g n p := fun g' n' hg => by
  simp only [AHeap.set, if_true, Option.some.injEq, AObj.tail.injEq] at hg
  exact ⟨by omega, fun _ => ⟨by omega, fun _ => hp⟩⟩
/-- A slice without room, from here one that grows. -/
theorem Cvt.adopt {s nx : Nat} (sz : Nat) (hs : lk s e = some .nils) (hn : h.next = nx) : Cvt e h ((s, some (.app nx 0 sz [])) :: e) (h.put nx (.tail 0 0)) := fun N m w a hr he => by
  subst hn
  have hf := next_fresh hr
  have st := step_putv hr hf
  refine ⟨_, hr.putv hf, ?_, st⟩
  have he' := he.step st
  refine ⟨he'.size, he'.defers, fun i v hi => ?_⟩
  simp only [lk_cons, lk_nil] at hi
  split at hi
  · rename_i e1
    subst e1
    cases hi
    have hv := he.val i _ hs
    generalize a.tmps.getD i undef = x at hv
    cases hv with
    | nils0 => exact .app0 _ _ _ put_used_nm (tok_new (by simp [upd]))
    | nils1 a => exact .app1 _ _ _ _ put_used_nm (tok_new (by simp [upd]))
  · exact he'.val i v hi

theorem ref_imm {m : Inj} {w : World} {id off len sz : Nat} {c : List (List AV)} (hr : HR m h w) (hg : h.get id = some (.mem sz c)) {v : Value} (hv : VR m h w (.ref id off len) v) : VR m (h.set id none) w (.imm sz ((c.drop off).take len)) v := by
  have st := step_del (m := m) (h := h) (w := w) id
  cases hv with
  | ref _ _ _ cap a hu' hcap ha =>
    obtain ⟨b, hb, hle, had, cc, T, hcc, hsz⟩ := ha _ _ hg
    obtain ⟨b', cc', T', q1, q2, q3, q4⟩ := hr.obj _ _ hg
    rw [hb] at q1
    cases q1
    have hlen : ((c.drop off).take len).length = len := by simp; omega
    rcases Nat.eq_zero_or_pos len with h0 | h0
    · subst h0
      simp only [List.take_zero]
      exact .imm1 _ _ _
    · rcases had with h00 | rfl
      · omega
      · have hrow := (q4.drop off).take len
        have := VR.imm (m := m) (h := h.set id none) (w := w) sz ((c.drop off).take len) b (off * sz) cap (fun k => cc'.getD (off * sz + k) undef) (fun k hk => ⟨?_, ?_⟩) hrow.1 hrow.2.1 (fun i cells hi j v hj => (hrow.2.2 i cells hi j v hj).step st) (by omega)
        · rwa [hlen] at this
        · rw [hlen] at hk
          have h5 : (off + len) * sz ≤ c.length * sz := Nat.mul_le_mul_right _ hle
          rw [Nat.add_mul] at h5
          rw [cell_of_row w b _ cc' T' (0, 0) q2]
          simp [Array.getD_eq_getD_getElem?, show off * sz + k < cc'.size by omega]
        · rintro ⟨j, t, ⟨x, hx⟩, hm, _⟩
          by_cases e1 : j = id
          · simp [AHeap.set, e1] at hx
          · simp only [AHeap.set, if_neg e1] at hx
            exact e1 (hr.inj j id x _ b t 0 hx hg hm hb)
/-- A slice of memory that is written no more. -/
theorem Cvt.frz {s id off len sz : Nat} {cc : List (List AV)} (hs : lk s e = some (.ref id off len)) (hg : h.get id = some (.mem sz cc)) : Cvt e h ((s, some (.imm sz ((cc.drop off).take len))) :: e) (h.set id none) := fun N m w a hr he => by
  refine ⟨m, hr.del id, ?_, step_del id⟩
  have he' := he.step (step_del id)
  refine ⟨he'.size, he'.defers, fun i v hi => ?_⟩
  simp only [lk_cons, lk_nil] at hi
  split at hi
  · rename_i e1
    subst e1
    cases hi
    exact ref_imm hr hg (he.val i _ hs)
  · exact he'.val i v hi
theorem frz_all {id n sz : Nat} {cc : List (List AV)} {s : Nat} (hs : lk s e = some (.ref id 0 n)) (hg : h.get id = some (.mem sz cc)) (hl : cc.length = n) : Cvt e h ((s, some (.imm sz cc)) :: e) (h.set id none) := by
  have := Cvt.frz hs hg
  simpa [hl, List.take_of_length_le (Nat.le_of_eq hl)] using this
theorem AW.loopE {σ : Type} (E : σ → Env) (I : σ → AHeap → Prop) (μ : σ → Nat) (s₀ : σ) (he : subE (E s₀) e) (h₀ : I s₀ h)
    (round : ∀ s h, I s h → AW P N c (thenQ (fun e' h' => ∃ s', subE (E s') e' ∧ I s' h' ∧ μ s' < μ s) Q) (E s) h) : AW P N (.loop c) Q e h := by
  refine AW.loop (fun s e h => subE (E s) e ∧ I s h) μ s₀ ⟨he, h₀⟩ fun s e h ⟨q1, q2⟩ => AW.cvt (Cvt.sub q1) ?_
  refine (round s h q2).mono fun ex e' h' hq => ?_
  cases ex <;> first
    | exact hq
    | (obtain ⟨s', g1, g2, g3⟩ := hq; exact ⟨s', ⟨g1, g2⟩, g3⟩)
theorem thenN {K : Env → AHeap → Prop} (hk : K e h) : thenQ K Q .normal e h := hk
theorem leN {m n : Nat} (hn : h.next = n) (hl : m ≤ n) : m ≤ h.next := by omega
theorem ltN {id n : Nat} (hn : h.next = n) (hl : id < n) : id < h.next := by omega
theorem frz_eq {id n sz : Nat} {cc c' : List (List AV)} {s : Nat} (hs : lk s e = some (.ref id 0 n)) (hg : h.get id = some (.mem sz cc)) (hl : cc.length = n) (hc : cc = c') : Cvt e h ((s, some (.imm sz c')) :: e) (h.set id none) := by
  subst hc; exact frz_all hs hg hl
end
end Go.Abs
