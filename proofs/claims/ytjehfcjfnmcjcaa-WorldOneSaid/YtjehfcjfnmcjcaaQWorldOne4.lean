/- What the statement's proof needs, part 4. -/
import Derived.Test.YtjehfcjfnmcjcaaQWorldOne3
set_option linter.all false
namespace Go.Abs
open Go

def mk (r : Nat) : Deferred := { target := .collected r, args := #[] }
/-- How code ends behind a range over a function: a mark among the deferred calls. -/
def PMd (N : Nat) (Q : Exit → Env → AHeap → Prop) (did r : Nat) (m : Inj) (h : AHeap) (w : World) : Exit → Go.Act → World → Prop :=
  fun ex a' w' => ∃ (m' : Inj) (e' : Env) (h' : AHeap), HR m' h' w' ∧ ER N m' h' w' e' { a' with defers := [] } ∧ a'.defers = [mk r] ∧ Step m h w m' h' w' ∧ h'.get did = some (.dfr r (some [])) ∧ Q ex e' h'
/-- How code ends in which a range over a function stood: the block of deferred calls is new. -/
def PMk (N : Nat) (Q : Nat → Exit → Env → AHeap → Prop) (m : Inj) (h : AHeap) (w : World) : Exit → Go.Act → World → Prop :=
  fun ex a' w' => ∃ (r did : Nat), ¬ h.used did ∧ PMd N (Q did) did r m h w ex a' w'
/-- Code in which such a range stands. -/
def AMk (P : Program) (N : Nat) (c : CC) (Q : Nat → Exit → Env → AHeap → Prop) (e : Env) (h : AHeap) : Prop :=
  ∀ code, compC P N code = c → ∀ m w a, HR m h w → ER N m h w e a → code.wp P (PMk N Q m h w) a w
/-- Code behind it. -/
def AMM (P : Program) (N : Nat) (c : CC) (Q : Exit → Env → AHeap → Prop) (did r : Nat) (e : Env) (h : AHeap) : Prop :=
  ∀ code, compC P N code = c → ∀ m w a, HR m h w → ER N m h w e { a with defers := [] } → a.defers = [mk r] → code.wp P (PMd N Q did r m h w) a w
section
variable {P : Program} {N : Nat} {e : Env} {h : AHeap} {m : Inj} {w : World} {Q : Nat → Exit → Env → AHeap → Prop} {K : Exit → Env → AHeap → Prop}
theorem PMd.from {m₁ : Inj} {h₁ : AHeap} {w₁ : World} {did r : Nat} (s : Step m h w m₁ h₁ w₁) {ex : Exit} {a : Go.Act} {w' : World} (hp : PMd N K did r m₁ h₁ w₁ ex a w') : PMd N K did r m h w ex a w' := by
  obtain ⟨m', e', h', h1, h2, h3, h4, h5, h6⟩ := hp
  exact ⟨m', e', h', h1, h2, h3, s.trans h4, h5, h6⟩
theorem AMk.block {id : Nat} {x : CC} (hw : AMk P N x (fun did ex e h => ex = .normal ∧ Q did .normal e h) e h) : AMk P N (.block id x) Q e h := by
  intro code hc m w a hr he
  cases code <;> simp only [compC] at hc <;> try (cases hc; done)
  · split at hc <;> cases hc
  · split at hc <;> cases hc
  · cases hc
    refine wp_block (wp_mono (hw _ rfl m w a hr he) fun ex a' w' hp => ?_)
    obtain ⟨r, did, hu, m', e', h', h1, h2, h3, h4, h5, rfl, h6⟩ := hp
    exact ⟨r, did, hu, m', e', h', h1, h2, h3, h4, h5, h6⟩
  · split at hc <;> cases hc
theorem AMM.seq {x y : CC} {did r : Nat} (hw : AMM P N x (fun ex e h => ex = .normal ∧ (h.get did = some (.dfr r (some [])) → AMM P N y K did r e h)) did r e h) : AMM P N (.seq x y) K did r e h := by
  intro code hc m w a hr he hd
  cases code <;> simp only [compC] at hc <;> try (cases hc; done)
  · split at hc <;> cases hc
  · rename_i cx cy
    cases hc
    refine wp_seq (wp_mono (hw cx rfl m w a hr he hd) fun ex a' w' hp => ?_)
    obtain ⟨m', e', h', h1, h2, h3, h4, h5, rfl, h6⟩ := hp
    exact wp_mono (h6 h5 cy rfl m' w' a' h1 h2 h3) fun _ _ _ hp => hp.from h4
  · split at hc <;> cases hc
  · split at hc <;> cases hc
theorem AMM.ret {did r : Nat} (hg : h.get did = some (.dfr r (some []))) (hq : K .ret e h) : AMM P N .ret K did r e h := by
  intro code hc m w a hr he hd
  cases code <;> simp only [compC] at hc <;> try (cases hc; done)
  · split at hc <;> cases hc
  · split at hc <;> cases hc
  · split at hc <;> cases hc
  · exact wp_ret ⟨m, e, h, hr, he, hd, Step.refl _ _ _, hg, hq⟩
/-- Operations do not look at the deferred calls. -/
theorem wpOps_dfr {ops : Array Oper} {K : Exit → Go.Act → World → Prop} (hl : ¬ LetsOut K) (ds : List Deferred) : ∀ (idx : List Nat) (a : Go.Act) (w : World), wpOps P ops K idx a w →
    wpOps P ops (fun ex a' w' => ∃ a0, a' = { a0 with defers := a0.defers ++ ds } ∧ K ex a0 w') idx { a with defers := a.defers ++ ds } w
  | [], a, w, hw => ⟨a, rfl, hw⟩
  | i :: idx, a, w, hw => by
    have ih := wpOps_dfr (ops := ops) (K := K) hl ds idx
    have ihp : ∀ (a : Go.Act) (d : Option Tmp) (v : Value) (w : World), wpOps P ops K idx (a.put d v) w → wpOps P ops (fun ex a' w' => ∃ a0, a' = { a0 with defers := a0.defers ++ ds } ∧ K ex a0 w') idx (({ a with defers := a.defers ++ ds } : Go.Act).put d v) w := fun a d v w hx => by
      have := ih _ _ hx
      cases d <;> exact this
    have hev : ({ a with defers := a.defers ++ ds } : Go.Act).eval = a.eval := funext fun x => by cases x <;> rfl
    simp only [wpOps] at hw ⊢
    cases ho : ops[i]? with
    | none => simp only [ho] at hw; exact ih _ _ hw
    | some o =>
      simp only [ho] at hw ⊢
      by_cases hwant : Region.wanted o (yielded ops a.tmps) = true
      · rw [if_pos hwant] at hw ⊢
        rcases hw with hw | ⟨_, hx⟩
        · left
          unfold Oper.wp at hw ⊢
          rw [hev]
          generalize (execOp a.eval o).run P w = r at hw ⊢
          cases r with
          | ok nx w' =>
            cases nx <;> simp only [Oper.upon] at hw ⊢ <;> first
              | exact ihp _ _ _ _ hw
              | exact ihp { a with defers := _ :: a.defers } _ _ _ hw
              | exact Calls.mono hw fun ex w'' he => by
                  cases ex with
                  | returned v => exact ihp _ _ _ _ he
                  | panicked ch => exact ⟨a, rfl, he⟩
                  | outgrown => exact absurd he hl
              | exact Rows.mono hw fun _ _ he => ihp _ _ _ _ he
              | exact hw
          | halt x w' => cases x <;> simp only [Oper.upon] at hw ⊢ <;> first | exact ⟨a, rfl, hw⟩ | exact hw
        · exact absurd hx hl
      · rw [if_neg hwant] at hw ⊢
        exact ihp _ _ _ _ hw
theorem AMM.reg {l : List CI} {did r : Nat} (hw : WL P N l (fun ex e h' => ex = .normal ∧ (h'.get did = some (.dfr r (some [])) ∧ K .normal e h')) e h) : AMM P N (.reg l) K did r e h := by
  intro code hc m w a hr he hd
  cases code <;> simp only [compC] at hc <;> try (cases hc; done)
  · rename_i id ops dr
    split at hc
    · cases hc
    · rename_i hdr
      injection hc with hc
      have hd' : dr = false := by simpa using hdr
      subst hd'
      have hx := wpOps_dfr noOut [mk r] _ _ _ (hw.out ops (List.range ops.size) (fun i hi => by simpa using hi) (compR_range.trans hc) m w { a with defers := [] } hr he)
      have ha : ({ ({ a with defers := [] } : Go.Act) with defers := ({ a with defers := [] } : Go.Act).defers ++ [mk r] } : Go.Act) = a := by
        cases a; simp only at hd; subst hd; rfl
      rw [ha] at hx
      refine wp_region (wpOps_mono (fun ex a1 w1 hp => ?_) _ _ _ hx)
      obtain ⟨a0, rfl, m1, e1, h1, hr1, he1, st1, rfl, hg1, hq⟩ := hp
      refine ⟨m1, e1, h1, hr1, ⟨he1.size, rfl, he1.val⟩, ?_, st1, hg1, hq⟩
      show a0.defers ++ [mk r] = [mk r]
      rw [he1.defers]; rfl
  · split at hc <;> cases hc
  · split at hc <;> cases hc
/-- The statement. -/
theorem AMk.rangeF {f p : Nat} {g : Opd} {us ts : List AV} {cA cB : CC} {es : List (Nat × AV)} (hg : ev e g = some (.func (.func f) us ts)) (hbd : bodied P f = true) (hes : ∀ s v, (s, v) ∈ es → lk s e = some v)
    (hac : ∀ (l r : Nat) (fn : FuncId) (asg bdy : Code), compC P N asg = cA → compC P N bdy = cB → AC P f (us ++ [.func (.yield l) [] []] ++ ts) ((h.put h.next (.dfr r (some []))).put (h.next + 1) (.loop l .ready N es fn #[p] asg bdy r))
      (fun _ h' => h'.get h.next = some (.dfr r (some [])) ∧ h'.get (h.next + 1) = some (.loop l .ready N es fn #[p] asg bdy r) ∧ Q h.next .normal e (h'.set (h.next + 1) none))) : AMk P N (.rangeF g [p] cA cB) Q e h := by
  intro code hc m w a hr he
  cases code <;> simp only [compC] at hc <;> try (cases hc; done)
  · split at hc <;> cases hc
  · split at hc <;> cases hc
  · rename_i gq ps asg bdy
    split at hc
    · rename_i g' hgq
      injection hc with e1 e2 e3 e4
      subst e1 e3 e4
      have hps : ps = #[p] := by rw [← Array.toArray_toList (xs := ps), e2]
      subst hps
      refine (wpIn_wide (n := 0)).1 (wpIn_rangeFunc fun fn _ => ?_)
      have hfv := he.eval hgq hg
      have hf1 := next_fresh hr
      have hr1 : HR (upd m h.next (some (w.heap.size, 0))) (h.put h.next (.dfr w.heap.size (some []))) (w.alloc (.deferred (some []))) := hr.put hf1 ⟨by simp [upd], World.alloc_heap_new _ _⟩
      have st1 := step_put hr hf1 (.dfr w.heap.size (some [])) (.deferred (some [])) 0
      have hn1 : (h.put h.next (.dfr w.heap.size (some []))).next = h.next + 1 := next_put _ _
      have hf2 : ¬ (h.put h.next (.dfr w.heap.size (some []))).used (h.next + 1) := fun hu => by have := hu.1; omega
      have hsz1 : (w.alloc (.deferred (some []))).heap.size = w.heap.size + 1 := World.size_alloc ..
      have st2 := step_put hr1 hf2 (.loop (w.heap.size + 1) .ready N es fn #[p] asg bdy w.heap.size) (.loop ⟨.ready, none, fn, a.tmps, #[p], asg, bdy, w.heap.size⟩) 0
      have hr2 := hr1.put (t := 0) (x := .loop (w.heap.size + 1) .ready N es fn #[p] asg bdy w.heap.size) (o := .loop ⟨.ready, none, fn, a.tmps, #[p], asg, bdy, w.heap.size⟩) hf2
        ⟨by simp [upd], a.tmps, by rw [← hsz1]; exact World.alloc_heap_new _ _, he.size, fun s v hs => (he.val s v (hes s v hs)).step (st1.trans st2)⟩
      have he2 := he.step (st1.trans st2)
      generalize hcx : a.eval gq = cx at hfv
      cases hfv with
      | func _ _ _ cs ds q1 q2 q3 q4 =>
        have hfv2 : VR _ _ _ (.func (.func f) us ts) (.func (.func f) cs ds) := (VR.func (.func f) us ts cs ds q1 q2 q3 q4).step (st1.trans st2)
        obtain ⟨W, hW⟩ : ∃ W, (w.alloc (.deferred (some []))).alloc (.loop ⟨.ready, none, fn, a.tmps, #[p], asg, bdy, w.heap.size⟩) = W := ⟨_, rfl⟩
        obtain ⟨d, hd1, hd2⟩ : ∃ d : Deferred, (resolve a.eval (rangeCall gq (w.heap.size + 1)) 0).run P W = .ok d W ∧ (invoke d.target d.args).run P W = .ok (.enter f (cs ++ #[.func (.yield (w.heap.size + 1)) #[] #[]] ++ ds)) W := by
          have hce : a.eval (.const (.func (.yield (w.heap.size + 1)) #[] #[])) = .func (.yield (w.heap.size + 1)) #[] #[] := rfl
          refine ⟨{ target := .fn (.func f) ds, args := cs ++ #[.func (.yield (w.heap.size + 1)) #[] #[]] }, ?_, ?_⟩
          · simp [resolve, rangeCall, hcx, hce, Deferred.ofValue]
          · simp [invoke, run_callFunc hbd]
        refine ⟨w.heap.size + 1, [mk w.heap.size], W, d, W, f, cs ++ #[.func (.yield (w.heap.size + 1)) #[] #[]] ++ ds, W, ?_, hd1, fun _ _ => trivial, hd2, fun hh => by simp [Fence.wide] at hh, ?_⟩
        · rw [← hW]; exact run_enterLoop_outer fn a.tmps #[p] asg bdy
        · refine callsIn_wide.2 ?_
          subst hW
          refine (hac (w.heap.size + 1) w.heap.size fn asg bdy rfl rfl _ _ _ hr2 (by simp [q1, q2]; omega) (fun j v hj => ?_)).mono fun ex w3 hx => ?_
          · have q3' := fun i v hi => (q3 i v hi).step (st1.trans st2)
            have q4' := fun i v hi => (q4 i v hi).step (st1.trans st2)
            rw [List.append_assoc] at hj
            simp only [Array.getD_eq_getD_getElem?]
            by_cases j1 : j < us.length
            · rw [List.getElem?_append_left j1] at hj
              have := q3' j v hj
              rw [Array.append_assoc, Array.getElem?_append_left (by omega)]
              simpa [Array.getD_eq_getD_getElem?] using this
            · rw [List.getElem?_append_right (by omega)] at hj
              rw [Array.append_assoc, Array.getElem?_append_right (by omega), ← q1]
              by_cases j2 : j - us.length < 1
              · rw [List.getElem?_append_left (by simpa using j2)] at hj
                have h0 : j - us.length = 0 := by omega
                rw [h0] at hj ⊢
                cases hj
                rw [Array.getElem?_append_left (by simp)]
                exact .func _ [] [] #[] #[] rfl rfl (by simp) (by simp)
              · rw [List.getElem?_append_right (by simp; omega)] at hj
                have := q4' _ v hj
                rw [Array.getElem?_append_right (by simp; omega)]
                simpa [Array.getD_eq_getD_getElem?] using this
          · obtain ⟨v, m3, r3, h3, rfl, hr3, _, st3, hg3, hl3, hq3⟩ := hx
            obtain ⟨T3, hT3, _, _, hr4, st4⟩ := loop_turn hr3 hl3 .exhausted
            have hr5 := hr4.del (h.next + 1)
            have st5 : Step _ _ _ _ _ _ := step_del (m := m3) (h := h3.set (h.next + 1) (some (.loop (w.heap.size + 1) .exhausted N es fn #[p] asg bdy w.heap.size))) (w := w3.putObj (w.heap.size + 1) (.loop ⟨.exhausted, none, fn, T3, #[p], asg, bdy, w.heap.size⟩)) (h.next + 1)
            refine ⟨none, _, run_endLoop hT3 (by simp), ?_⟩
            rw [set_set] at hr5 st5
            have stA := (((st1.trans st2).trans st3).trans st4).trans st5
            refine ⟨w.heap.size, h.next, fun hu => absurd hu.1 (Nat.lt_irrefl _), m3, e, _, hr5, ?_, ?_, stA, ?_, hq3⟩
            · have := he.step stA
              exact ⟨this.size, rfl, this.val⟩
            · show [mk w.heap.size] ++ a.defers = _
              rw [he.defers]; rfl
            · rw [get_set, if_neg (by omega)]; exact hg3
    · cases hc

end
end Go.Abs


namespace Go.Proofs.Ytjehfcjfnmcjcaa
open Go Go.Abs

theorem AC.used {P : Program} {f : Nat} {vs : List AV} {h : AHeap} {R : AV → AHeap → Prop} (hac : AC P f vs h R) : AC P f vs h (fun r h' => R r h' ∧ (∀ id, h.used id → h'.used id) ∧ ∀ id x, h'.get id = some x → h'.used id) := fun m w cargs hr hl hv =>
  (hac m w cargs hr hl hv).mono fun ex w' ⟨v, m', r, h', e1, g1, g2, g3, hR⟩ => ⟨v, m', r, h', e1, g1, g2, g3, hR, g3.used, g1.live⟩
theorem AMk.named {P : Program} {N : Nat} {c : CC} {Q : Nat → Exit → Env → AHeap → Prop} {e : Env} {h : AHeap} (F : AHeap → Prop) (hf : F h) (k : ∀ h5, F h5 → AMk P N c Q e h5) : AMk P N c Q e h := k h hf
end Go.Proofs.Ytjehfcjfnmcjcaa


namespace Go.Proofs.Ytjehfcjfnmcjcaa
open Go Go.Abs

/-- A real lock's cells. -/
def reC : List AV := [.func (.func 104) [] [], .func (.func 105) [] [], .func (.func 106) [] [], .func (.func 16) [.nilp] [], .func (.func 19) [.nilp] []]
theorem lock_Real_ae {h : AHeap} {nx : Nat} (hn : h.next = nx) : AE Try.prog 66 [] h (.ptr nx 0 0) (h.put nx (.mem 5 [reC])) := by
  subst hn
  refine AC.introW is_lock_Real (by simp) ?_
  unfold c_lock_Real
  (refine go ?_)
  exact WW.ret ⟨.inl rfl, _, gRES, rfl, rfl⟩
end Go.Proofs.Ytjehfcjfnmcjcaa


namespace Go.Proofs.Ytjehfcjfnmcjcaa
open Go Go.Abs

/-- All that is there: slots, power, the devices, the counters, the keys, what the lock sealed and summed. -/
structure WS where
  n : Int
  pw : PwS
  sd : SdS
  dk : DkS
  ct : CtS
  ks : KsS
  L : List Iss
  S : List Bs
/-- The names of a world's objects: power, the lock's four, from a on the rest. -/
structure WN where
  p : Nat
  l : Nat
  o : Nat
  t : Nat
  q : Nat
  a : Nat
def wRow (n : WN) (k : Int) : List AV := [.int .i64 k, .ptr n.p 0 0, .ptr (n.a + 1) 0 0, .ptr (n.a + 4) 0 0, .ptr (n.a + 7) 0 0, .ptr (n.a + 9) 0 0, .ptr n.l 0 0]
/-- Either lock, by what it sealed and summed. -/
structure LkAt (md : Bool) (h : AHeap) (l o t q : Nat) (L : List Iss) (S : List Bs) : Prop where
  id : md = true → IdAt h l o t q 0 L S
  re : md = false → h.get l = some (.mem 5 [reC])
structure WAt (md : Bool) (h : AHeap) (n : WN) (s : WS) : Prop where
  sd : SdAt h ⟨n.p, n.a + 1, n.a, n.a + 2, n.a + 3⟩ s.pw s.sd
  dk : DkAt h ⟨n.p, n.a + 4, n.a + 5, n.a + 6⟩ s.pw s.dk
  ct : h.get (n.a + 7) = some (s.ct.obj n.p)
  ks : KsAt h n.p (n.a + 9) (n.a + 8) s.ks
  w : h.get (n.a + 10) = some (.mem 7 [wRow n s.n])
  lk : LkAt md h n.l n.o n.t n.q s.L s.S
  op : n.p < n.a
  ol : n.l < n.a
  oo : md = true → n.o < n.a ∧ n.t < n.a ∧ n.q < n.a
  nx : n.a + 11 ≤ h.next
def ws0 (k : Nat) (seed : Int) : WS := ⟨k, ⟨false, false, 0, 0⟩, sd0 (k * 160 + 120), dk0, ⟨0, 0, 0⟩, ⟨seed, [1]⟩, [], []⟩
theorem SdAt.same {h h' : AHeap} {n : SdN} {w : PwS} {x : SdS} (hd : SdAt h n w x) (h1 : h'.get n.p = h.get n.p) (h2 : h'.get n.s = h.get n.s) (h3 : h'.get n.B = h.get n.B) (h4 : h'.get n.w = h.get n.w) (h5 : h'.get n.t = h.get n.t) : SdAt h' n w x :=
  ⟨h1.trans hd.pw, h2.trans hd.ob, h3.trans hd.bl, h4.trans hd.wt, h5.trans hd.tr, hd.ne⟩
theorem DkAt.same {h h' : AHeap} {n : DkN} {w : PwS} {x : DkS} (hd : DkAt h n w x) (h1 : h'.get n.p = h.get n.p) (h2 : h'.get n.d = h.get n.d) (h4 : h'.get n.w = h.get n.w) (h5 : h'.get n.t = h.get n.t) : DkAt h' n w x :=
  ⟨h1.trans hd.pw, h2.trans hd.ob, h4.trans hd.wt, h5.trans hd.tr, hd.ne, hd.ll⟩
theorem KsAt.same {h h' : AHeap} {p k te : Nat} {s : KsS} (hd : KsAt h p k te s) (h2 : h'.get k = h.get k) (h3 : h'.get te = h.get te) : KsAt h' p k te s :=
  ⟨h2.trans hd.ob, h3.trans hd.tl, hd.ne, hd.sm⟩
theorem LkAt.same {md : Bool} {h h' : AHeap} {l o t q : Nat} {L : List Iss} {S : List Bs} (hd : LkAt md h l o t q L S) (h1 : h'.get l = h.get l) (h2 : md = true → h'.get o = h.get o ∧ h'.get t = h.get t ∧ h'.get q = h.get q) : LkAt md h' l o t q L S := by
  refine ⟨fun e => ?_, fun e => h1.trans (hd.re e)⟩
  obtain ⟨g1, g2, g3⟩ := h2 e
  obtain ⟨q0, q1, q2, q3⟩ := hd.id e
  exact ⟨h1.trans q0, ⟨g1.trans q1, g2.trans q2, g3.trans q3⟩⟩
theorem sdNew_ex {h : AHeap} {p nx k : Nat} {w : PwS} (hn : h.next = nx) (hp : p < nx) (hw : h.get p = some (.mem 4 [w.row])) : ∃ h1, sdNew p nx k h = h1 ∧ SdAt h1 ⟨p, nx + 1, nx, nx + 2, nx + 3⟩ w (sd0 k) ∧ h1.next = nx + 4 ∧ (∀ id, id < nx → h1.get id = h.get id) ∧ (∀ h0 : AHeap, Keeps h0 h → Keeps h0 h1) := by
  subst hn
  refine ⟨_, rfl, ?_, ?_, fun id hi => ?_, fun h0 k0 => ?_⟩
  · unfold sdNew
    exact sdAt_of gH gH gH gH gH (by omega)
  · unfold sdNew; show AHeap.next _ = h.next + 1 + 1 + 1 + 1; exact gN
  · unfold sdNew; exact gE
  · have := k0.1
    unfold sdNew; exact gK
theorem dkNew_ex {h : AHeap} {p nx : Nat} {w : PwS} (hn : h.next = nx) (hp : p < nx) (hw : h.get p = some (.mem 4 [w.row])) : ∃ h1, dkNew p nx h = h1 ∧ DkAt h1 ⟨p, nx, nx + 1, nx + 2⟩ w dk0 ∧ h1.next = nx + 3 ∧ (∀ id, id < nx → h1.get id = h.get id) ∧ (∀ h0 : AHeap, Keeps h0 h → Keeps h0 h1) := by
  subst hn
  refine ⟨_, rfl, ?_, ?_, fun id hi => ?_, fun h0 k0 => ?_⟩
  · unfold dkNew
    exact dkAt_of gH gH gH gH (by omega) (by simp [dk0])
  · unfold dkNew; show AHeap.next _ = h.next + 1 + 1 + 1; exact gN
  · unfold dkNew; exact gE
  · have := k0.1
    unfold dkNew; exact gK
set_option maxHeartbeats 2000000 in
theorem world_New_ac (md : Bool) (k : Nat) (hk : isG k = true) (seed : Int) (h : AHeap) : AC Try.prog 21 [.int .i64 k, .int .u64 seed, .bool md] h
    (fun r h' => ∃ n : WN, r = .tup [.ptr (n.a + 10) 0 0, .int .i64 0] ∧ WAt md h' n (ws0 k seed) ∧ h.next ≤ n.p ∧ h.next ≤ n.l ∧ (md = true → h.next ≤ n.o ∧ h.next ≤ n.t ∧ h.next ≤ n.q) ∧ h.next ≤ h'.next ∧ ∀ h0 : AHeap, Keeps h0 h → Keeps h0 h') := by
  refine AC.introW is_world_New (by simp) ?_
  unfold c_world_New
  (refine go ?_)
  refine WL.call rfl (by first | exact True.intro | exact rfl) gSL (geom_Is_ae k _) ?_
  rw [hk]
  (refine go ?_)
  refine WL.call rfl (by first | exact True.intro | exact rfl) gSL (power_New_ae rfl) ?_
  (refine go ?_)
  refine WL.call rfl (by first | exact True.intro | exact rfl) gSL (lock_Real_ae (nx := h.next + 1 + 1) gN) ?_
  refine WL.go ?_
  refine WL.nil ?_
  refine thenN ?_
  have hkk := isG_cases hk
  have hsz : sizeG (k : Int) = ((k * 160 + 120 : Nat) : Int) := by rw [sizeG, if_pos hk]; omega
  rw [put_set]
  refine WW.seqM (fun e7 h7 => ∃ l o t q a, subE [(1, some (.int .u64 seed)), (8, some (.ptr (h.next + 1) 0 0)), (9, some (.ptr h.next 0 0)), (10, some (.ptr l 0 0))] e7 ∧
    h7.get h.next = some (.mem 4 [(⟨false, false, 0, 0⟩ : PwS).row]) ∧ h7.get (h.next + 1) = some (.mem 1 [[.int .i64 k]]) ∧ LkAt md h7 l o t q [] [] ∧ h7.next = a ∧ h.next + 2 ≤ l ∧ l < a ∧ (md = true → h.next + 2 ≤ o ∧ o < a ∧ h.next + 2 ≤ t ∧ t < a ∧ h.next + 2 ≤ q ∧ q < a) ∧ ∀ h0 : AHeap, Keeps h0 h → Keeps h0 h7) ?_ ?_
  · cases md with
    | false =>
      (refine go ?_)
      refine ⟨rfl, h.next + 1 + 1, 0, 0, 0, h.next + 1 + 1 + 1, gSUB, gH, gH, ⟨nofun, fun _ => gH⟩, gN, by omega, by omega, nofun, fun h0 k0 => ?_⟩
      have := k0.1
      exact gK
    | true =>
      (refine go ?_)
      refine WL.call rfl (by first | exact True.intro | exact rfl) gSL (lock_Ideal_ae (nx := h.next + 1 + 1 + 1) gN) ?_
      obtain ⟨h2, e2, o2, n2, m2, k2⟩ := newL_ex (h := ((h.put h.next (.mem 4 [(⟨false, false, 0, 0⟩ : PwS).row])).put (h.next + 1) (.mem 1 [[.int .i64 k]])).put (h.next + 1 + 1) (.mem 5 [reC])) (nx := h.next + 1 + 1 + 1) gN
      rw [e2]
      clear e2
      have hx0 : Keeps h (((h.put h.next (.mem 4 [(⟨false, false, 0, 0⟩ : PwS).row])).put (h.next + 1) (.mem 1 [[.int .i64 k]])).put (h.next + 1 + 1) (.mem 5 [reC])) := gK
      (refine go ?_)
      refine ⟨rfl, _, _, _, _, _, gSUB, (m2 _ (by omega)).trans gH, (m2 _ (by omega)).trans gH, ⟨fun _ => o2, nofun⟩, n2, by omega, by omega, fun _ => ⟨by omega, by omega, by omega, by omega, by omega, by omega⟩, fun h0 k0 => k2 h0 ?_⟩
      have := k0.1
      exact gK
  · rintro e7 h7 ⟨l, o, t, q, a, hs7, hp0, hg0, hlk, hn7, l1, l2, hid, hK⟩
    refine WW.cvt (Cvt.sub hs7) ?_
    have hKh := (hK h (Keeps.refl _)).1
    (repeat first | refine WL.go ?_ | refine WW.seq ?_ | refine WW.reg ?_ | refine WL.nil ?_ | refine WW.skip ?_ | refine WW.block ?_ | refine WW.exit ?_ | refine WW.condT rfl ?_ | refine WW.condF rfl ?_ | refine WL.gox ?_ | refine thenN ?_ | refine blkN ?_)
    refine WW.dregX [5, 7, 9, 12, 15] [0] [] gN (by decide +kernel) ?_
    (refine go ?_)
    refine DW.callS rfl (by first | exact True.intro | exact rfl) gSL rfl (geom_Size_ae k _) ?_
    rw [hsz]
    (refine go ?_)
    refine DW.callSW rfl (by first | exact True.intro | exact rfl) gSL rfl rfl (fun hp => by unfold sdNew; exact PhiW.put (by omega) (PhiW.put (by omega) (PhiW.put (by omega) (PhiW.put (by omega) hp)))) (ssd_New_ae (nx := a) hn7 (by omega) (k * 160 + 120) (by omega)) ?_
    obtain ⟨h1, e1, d1, n1, m1, k1⟩ := sdNew_ex (k := k * 160 + 120) (nx := a) hn7 (by omega) hp0
    rw [e1]
    clear e1
    have hp1 := (m1 h.next (by omega)).trans hp0
    (refine go ?_)
    refine DW.callSW rfl (by first | exact True.intro | exact rfl) gSL rfl rfl (fun hp => by unfold dkNew; exact PhiW.put (by omega) (PhiW.put (by omega) (PhiW.put (by omega) hp))) (disk_New_ae (nx := a + 4) n1 (by omega)) ?_
    obtain ⟨h2, e2, d2, n2, m2, k2⟩ := dkNew_ex n1 (by omega) hp1
    rw [e2]
    clear e2
    (refine go ?_)
    refine DW.callSW rfl (by first | exact True.intro | exact rfl) gSL rfl rfl (fun hp => by repeat first | exact hp | refine PhiW.put (by omega) ?_ | refine PhiW.setN (by omega) ?_ | refine PhiW.setW (by simp; done) ?_) (count_New_ae (nx := a + 4 + 3) gN (p := h.next)) ?_
    (refine go ?_)
    refine DW.callSW rfl (by first | exact True.intro | exact rfl) gSL rfl rfl (fun hp => by repeat first | exact hp | refine PhiW.put (by omega) ?_ | refine PhiW.setN (by omega) ?_ | refine PhiW.setW (by simp; done) ?_) (keys_New_ae (nx := a + 4 + 3 + 1) gN seed) ?_
    (refine go ?_)
    refine WW.named (fun hF => (∀ id, id < a + 7 → hF.get id = h2.get id) ∧ hF.get (a + 7) = some (CtS.obj h.next ⟨0, 0, 0⟩) ∧ hF.get (a + 8) = some (.tail 0 1) ∧ hF.get (a + 9) = some ((⟨seed, [1]⟩ : KsS).obj h.next (a + 8)) ∧ hF.get (a + 10) = some (.mem 7 [[.int .i64 k, .ptr h.next 0 0, .ptr (a + 1) 0 0, .ptr (a + 4) 0 0, .ptr (a + 7) 0 0, .ptr (a + 9) 0 0, .ptr l 0 0]]) ∧ hF.next = a + 11 ∧ ∀ h0 : AHeap, Keeps h0 h → Keeps h0 hF)
      ⟨fun id hi => gE, gH, gH, gH, gH, ?_, fun h0 k0 => ?_⟩ ?_
    · show AHeap.next _ = a + 4 + 3 + 1 + 1 + 1 + 1
      exact gN
    · have k3 := k2 h0 (k1 h0 (hK h0 k0))
      have k4 := (hK h0 k0).1
      exact gK
    rintro hF ⟨f1, f2, f3, f4, f5, f6, f7⟩
    have f8 : ∀ id, id < a + 4 → hF.get id = h1.get id := fun id hi => (f1 id (by omega)).trans (m2 id hi)
    have f9 : ∀ id, id < a → hF.get id = h7.get id := fun id hi => (f8 id (by omega)).trans (m1 id hi)
    refine WW.ret ⟨.inl rfl, _, gRES, ⟨h.next, l, o, t, q, a⟩, rfl, ⟨d1.same (f8 _ ?_) (f8 _ ?_) (f8 _ ?_) (f8 _ ?_) (f8 _ ?_), d2.same (f1 _ ?_) (f1 _ ?_) (f1 _ ?_) (f1 _ ?_), f2, ⟨f4, f3, by simp [ws0], by simp [ws0]⟩, f5, hlk.same (f9 _ l2) fun e => ⟨f9 _ (hid e).2.1, f9 _ (hid e).2.2.2.1, f9 _ (hid e).2.2.2.2.2⟩, ?_, l2, fun e => ⟨(hid e).2.1, (hid e).2.2.2.1, (hid e).2.2.2.2.2⟩, ?_⟩, Nat.le_refl _, ?_, fun e => ⟨?_, ?_, ?_⟩, ?_, f7⟩
    all_goals (first | omega | (dsimp only; omega) | (have := hid e; omega) | (have := hid e; dsimp only; omega))
end Go.Proofs.Ytjehfcjfnmcjcaa


namespace Go.Proofs.Ytjehfcjfnmcjcaa
open Go Go.Abs

theorem world_New_no (md : Bool) (k : Int) (hk : isG k = false) (seed : Int) (h : AHeap) : AE Try.prog 21 [.int .i64 k, .int .u64 seed, .bool md] h (.tup [.nilp, .int .i64 1]) h := by
  refine AE.pureW is_world_New (by simp) ?_
  unfold c_world_New
  (refine go ?_)
  refine WL.call rfl (by first | exact True.intro | exact rfl) gSL (geom_Is_ae k _) ?_
  rw [hk]
  (refine go ?_)
  refine WW.ret (PureQ.finD ?_)
  exact .clo _ (.tup _ fun v hv => by
    simp only [List.mem_cons, List.not_mem_nil, or_false] at hv
    rcases hv with rfl | rfl
    · exact .nilp
    · exact .int _ _)
def WS.key (s : WS) : Pr := if s.ks.cur ∈ s.ks.epochs then ofK s.ks.seed s.ks.cur else (0, 0)
set_option maxHeartbeats 1000000 in
theorem law20_known_ae (h : AHeap) : AE Try.prog 23 [] h (.bool true) h := by
  refine AE.pureW is_law20_known (by simp) ?_
  unfold c_law20_known
  (refine go ?_)
  refine WL.callA rfl (by first | exact True.intro | exact rfl) gSL (world_New_ac true 4 rfl 1 h) ?_
  rintro _ h1 ⟨n, rfl, hw, np, nl, no, nn, kk⟩
  replace kk := kk h (Keeps.refl _)
  (refine go ?_)
  refine WL.call rfl (by first | exact True.intro | exact rfl) gSL (world_New_no true 5 rfl 1 _) ?_
  have hob := hw.w
  simp only [wRow] at hob
  (refine go ?_)
  refine WL.call rfl (by first | exact True.intro | exact rfl) gSL (ssd_Size_ae hw.sd.ob) ?_
  rw [show (ws0 4 1).sd.lasts.length = 760 from (List.length_replicate : (List.replicate (4 * 160 + 120) (0 : UInt8)).length = 4 * 160 + 120)]
  (refine go ?_)
  refine WW.ret (PureQ.finD ?_)
  exact fz_b rfl
end Go.Proofs.Ytjehfcjfnmcjcaa


namespace Go.Proofs.Ytjehfcjfnmcjcaa
open Go Go.Abs

abbrev WN.sdN (n : WN) : SdN := ⟨n.p, n.a + 1, n.a, n.a + 2, n.a + 3⟩
abbrev WN.dkN (n : WN) : DkN := ⟨n.p, n.a + 4, n.a + 5, n.a + 6⟩
theorem WAt.nep {md : Bool} {h : AHeap} {n : WN} {s : WS} (hw : WAt md h n s) : n.l ≠ n.p ∧ (md = true → n.o ≠ n.p ∧ n.t ≠ n.p ∧ n.q ≠ n.p) := by
  have key : ∀ {i j : Nat} {y z : AObj}, h.get i = some y → h.get j = some z → y ≠ z → i ≠ j := fun hi hj hne e => by
    subst e; rw [hi] at hj; exact hne (Option.some.inj hj)
  have hp := hw.sd.pw
  refine ⟨?_, fun e => ?_⟩
  · cases md with
    | true => exact key (hw.lk.id rfl).cells hp (by simp)
    | false => exact key (hw.lk.re rfl) hp (by simp)
  · obtain ⟨q0, q1, q2, q3⟩ := hw.lk.id e
    exact ⟨key q1 hp (by simp), key q2 hp (by simp), key q3 hp (by simp)⟩
/-- Names of a world that no device turns. -/
def WN.still (md : Bool) (n : WN) (id : Nat) : Prop := id = n.a + 10 ∨ id = n.l ∨ (md = true ∧ (id = n.o ∨ id = n.t ∨ id = n.q))
theorem WAt.re {md : Bool} {h h' : AHeap} {n : WN} {s s' : WS} (hw : WAt md h n s) (hn : s'.n = s.n) (hL : s'.L = s.L) (hS : s'.S = s.S) (hx : h.next ≤ h'.next) (sd : SdAt h' n.sdN s'.pw s'.sd) (dk : DkAt h' n.dkN s'.pw s'.dk) (ct : h'.get (n.a + 7) = some (s'.ct.obj n.p)) (ks : KsAt h' n.p (n.a + 9) (n.a + 8) s'.ks) (fr : ∀ id, n.still md id → h'.get id = h.get id) : WAt md h' n s' := by
  refine ⟨sd, dk, ct, ks, (fr _ (.inl rfl)).trans (by rw [hn]; exact hw.w), ?_, hw.op, hw.ol, hw.oo, Nat.le_trans hw.nx hx⟩
  rw [hL, hS]
  exact hw.lk.same (fr _ (.inr (.inl rfl))) fun e => ⟨fr _ (.inr (.inr ⟨e, .inl rfl⟩)), fr _ (.inr (.inr ⟨e, .inr (.inl rfl)⟩)), fr _ (.inr (.inr ⟨e, .inr (.inr rfl)⟩))⟩
theorem WAt.still {md : Bool} {h : AHeap} {n : WN} {s : WS} (hw : WAt md h n s) {id : Nat} (hi : n.still md id) : id ≠ n.p ∧ (id < n.a ∨ id = n.a + 10) := by
  have hp := hw.nep
  have h1 := hw.op
  have h2 := hw.ol
  rcases hi with rfl | rfl | ⟨e, rfl | rfl | rfl⟩
  · omega
  · omega
  · have := hw.oo e; have := hp.2 e; omega
  · have := hw.oo e; have := hp.2 e; omega
  · have := hw.oo e; have := hp.2 e; omega
theorem WAt.sdNe {md : Bool} {h : AHeap} {n : WN} {s : WS} (hw : WAt md h n s) : SdNe h n.sdN := by
  have h1 := hw.op
  have h2 := hw.nx
  constructor <;> dsimp only <;> omega
theorem WAt.putSd {md : Bool} {h : AHeap} {n : WN} {s : WS} (hw : WAt md h n s) (w' : PwS) (x' : SdS) : WAt md (sdPut n.sdN w' x' h) n { s with pw := w', sd := x' } := by
  have h1 := hw.op
  have hd := hw.dk
  have hp := SdAt.put hw.sdNe w' x'
  have g : ∀ id, id ≠ n.p → (id < n.a ∨ n.a + 4 ≤ id) → (sdPut n.sdN w' x' h).get id = h.get id := fun id e1 e2 => get_sdPut (by dsimp only; omega) (by dsimp only; omega) (by dsimp only; omega) (by dsimp only; omega) (by dsimp only; omega)
  refine hw.re rfl rfl rfl (Nat.le_refl _) hp ⟨hp.pw, (g _ (by dsimp only; omega) (by dsimp only; omega)).trans hd.ob, (g _ (by dsimp only; omega) (by dsimp only; omega)).trans hd.wt, (g _ (by dsimp only; omega) (by dsimp only; omega)).trans hd.tr, hd.ne, hd.ll⟩ ((g _ (by omega) (by omega)).trans hw.ct) (hw.ks.same (g _ (by omega) (by omega)) (g _ (by omega) (by omega))) fun id hi => ?_
  have := hw.still hi
  exact g id this.1 (by omega)
/-- Power alone. -/
theorem WAt.putPw {md : Bool} {h : AHeap} {n : WN} {s : WS} (hw : WAt md h n s) (w' : PwS) : WAt md (h.set n.p (some (.mem 4 [w'.row]))) n { s with pw := w' } := by
  have h1 := hw.op
  have hd := hw.dk
  have hs := hw.sd
  have g : ∀ id, id ≠ n.p → (h.set n.p (some (.mem 4 [w'.row]))).get id = h.get id := fun id e1 => get_set_neE e1 rfl
  refine hw.re rfl rfl rfl (Nat.le_refl _) ⟨get_set_same, (g _ (by dsimp only; omega)).trans hs.ob, (g _ (by dsimp only; omega)).trans hs.bl, (g _ (by dsimp only; omega)).trans hs.wt, (g _ (by dsimp only; omega)).trans hs.tr, hs.ne⟩ ⟨get_set_same, (g _ (by dsimp only; omega)).trans hd.ob, (g _ (by dsimp only; omega)).trans hd.wt, (g _ (by dsimp only; omega)).trans hd.tr, hd.ne, hd.ll⟩ ((g _ (by omega)).trans hw.ct) (hw.ks.same (g _ (by omega)) (g _ (by omega))) fun id hi => ?_
  exact g id (hw.still hi).1
theorem WAt.putCt {md : Bool} {h : AHeap} {n : WN} {s : WS} (hw : WAt md h n s) (w' : PwS) (c' : CtS) : WAt md ((h.set n.p (some (.mem 4 [w'.row]))).set (n.a + 7) (some (c'.obj n.p))) n { s with pw := w', ct := c' } := by
  have h1 := hw.op
  have hd := hw.dk
  have hs := hw.sd
  have g : ∀ id, id ≠ n.p → id ≠ n.a + 7 → ((h.set n.p (some (.mem 4 [w'.row]))).set (n.a + 7) (some (c'.obj n.p))).get id = h.get id := fun id e1 e2 => get_set_neE e2 (get_set_neE e1 rfl)
  have gp : ((h.set n.p (some (.mem 4 [w'.row]))).set (n.a + 7) (some (c'.obj n.p))).get n.p = some (.mem 4 [w'.row]) := get_set_neE (by omega) get_set_same
  refine hw.re rfl rfl rfl (Nat.le_refl _) ⟨gp, (g _ (by dsimp only; omega) (by dsimp only; omega)).trans hs.ob, (g _ (by dsimp only; omega) (by dsimp only; omega)).trans hs.bl, (g _ (by dsimp only; omega) (by dsimp only; omega)).trans hs.wt, (g _ (by dsimp only; omega) (by dsimp only; omega)).trans hs.tr, hs.ne⟩ ⟨gp, (g _ (by dsimp only; omega) (by dsimp only; omega)).trans hd.ob, (g _ (by dsimp only; omega) (by dsimp only; omega)).trans hd.wt, (g _ (by dsimp only; omega) (by dsimp only; omega)).trans hd.tr, hd.ne, hd.ll⟩ get_set_same (hw.ks.same (g _ (by omega) (by omega)) (g _ (by omega) (by omega))) fun id hi => ?_
  have := hw.still hi
  exact g id this.1 (by omega)
theorem WAt.putKs {md : Bool} {h : AHeap} {n : WN} {s : WS} (hw : WAt md h n s) (w' : PwS) (k' : KsS) (hk : k'.epochs ≠ []) (hl : k'.epochs.length ≤ 1000000) : WAt md (ksPut n.p (n.a + 9) (n.a + 8) w' k' h) n { s with pw := w', ks := k' } := by
  have h1 := hw.op
  have hd := hw.dk
  have hs := hw.sd
  have g : ∀ id, id ≠ n.p → id ≠ n.a + 8 → id ≠ n.a + 9 → (ksPut n.p (n.a + 9) (n.a + 8) w' k' h).get id = h.get id := fun id e1 e2 e3 => get_set_neE e3 (get_set_neE e2 (get_set_neE e1 rfl))
  have gp : (ksPut n.p (n.a + 9) (n.a + 8) w' k' h).get n.p = some (.mem 4 [w'.row]) := get_set_neE (by omega) (get_set_neE (by omega) get_set_same)
  refine hw.re rfl rfl rfl (Nat.le_refl _) ⟨gp, (g _ (by dsimp only; omega) (by dsimp only; omega) (by dsimp only; omega)).trans hs.ob, (g _ (by dsimp only; omega) (by dsimp only; omega) (by dsimp only; omega)).trans hs.bl, (g _ (by dsimp only; omega) (by dsimp only; omega) (by dsimp only; omega)).trans hs.wt, (g _ (by dsimp only; omega) (by dsimp only; omega) (by dsimp only; omega)).trans hs.tr, hs.ne⟩ ⟨gp, (g _ (by dsimp only; omega) (by dsimp only; omega) (by dsimp only; omega)).trans hd.ob, (g _ (by dsimp only; omega) (by dsimp only; omega) (by dsimp only; omega)).trans hd.wt, (g _ (by dsimp only; omega) (by dsimp only; omega) (by dsimp only; omega)).trans hd.tr, hd.ne, hd.ll⟩ ((g _ (by omega) (by omega) (by omega)).trans hw.ct) ⟨get_set_same, get_set_neE (by omega) get_set_same, hk, hl⟩ fun id hi => ?_
  have := hw.still hi
  exact g id this.1 (by omega) (by omega)
end Go.Proofs.Ytjehfcjfnmcjcaa


namespace Go.Proofs.Ytjehfcjfnmcjcaa
open Go Go.Abs

theorem WAt.dkNe {md : Bool} {h : AHeap} {n : WN} {s : WS} (hw : WAt md h n s) : DkNe h n.dkN := by
  have h1 := hw.op
  have h2 := hw.nx
  constructor <;> dsimp only <;> omega
theorem WAt.putDk {md : Bool} {h : AHeap} {n : WN} {s : WS} (hw : WAt md h n s) (w' : PwS) (x' : DkS) (hl : x'.lasts.length = 32) : WAt md (dkPut n.dkN w' x' h) n { s with pw := w', dk := x' } := by
  have h1 := hw.op
  have hs := hw.sd
  have hp := DkAt.put hw.dkNe w' hl
  have g : ∀ id, id ≠ n.p → (id < n.a + 4 ∨ n.a + 7 ≤ id) → (dkPut n.dkN w' x' h).get id = h.get id := fun id e1 e2 => get_dkPut (by dsimp only; omega) (by dsimp only; omega) (by dsimp only; omega) (by dsimp only; omega)
  refine hw.re rfl rfl rfl (Nat.le_refl _) ⟨hp.pw, (g _ (by dsimp only; omega) (by dsimp only; omega)).trans hs.ob, (g _ (by dsimp only; omega) (by dsimp only; omega)).trans hs.bl, (g _ (by dsimp only; omega) (by dsimp only; omega)).trans hs.wt, (g _ (by dsimp only; omega) (by dsimp only; omega)).trans hs.tr, hs.ne⟩ hp ((g _ (by omega) (by omega)).trans hw.ct) (hw.ks.same (g _ (by omega) (by omega)) (g _ (by omega) (by omega))) fun id hi => ?_
  have := hw.still hi
  exact g id this.1 (by omega)
end Go.Proofs.Ytjehfcjfnmcjcaa


namespace Go.Proofs.Ytjehfcjfnmcjcaa
open Go Go.Abs

/-- All that was used is used and stands as it stood, but for W. -/
structure Kp (W : Nat → Prop) (h h1 : AHeap) : Prop where
  next : h.next ≤ h1.next
  us : ∀ id, h.used id → h1.used id
  get : ∀ id, h.used id → ¬ W id → h1.get id = h.get id
section
variable {W : Nat → Prop} {h h1 h2 : AHeap}
theorem Kp.refl : Kp W h h := ⟨Nat.le_refl _, fun _ h => h, fun _ _ _ => rfl⟩
theorem Kp.put (hk : Kp W h h1) {nm : Nat} (hn : h.next ≤ nm) (x : AObj) : Kp W h (h1.put nm x) :=
  ⟨next_le_put hk.next, fun id hu => put_used (hk.us id hu), fun id hu hw => by
    rw [get_put, if_neg (by have := hu.1; omega)]
    exact hk.get id hu hw⟩
theorem Kp.setN (hk : Kp W h h1) {nm : Nat} (hn : h.next ≤ nm) (x : Option AObj) : Kp W h (h1.set nm x) :=
  ⟨hk.next, hk.us, fun id hu hw => by
    rw [get_set, if_neg (by have := hu.1; omega)]
    exact hk.get id hu hw⟩
theorem Kp.setW (hk : Kp W h h1) {nm : Nat} (hn : W nm) (x : Option AObj) : Kp W h (h1.set nm x) :=
  ⟨hk.next, hk.us, fun id hu hw => by
    rw [get_set, if_neg (fun e => hw (by rw [e]; exact hn))]
    exact hk.get id hu hw⟩
theorem Kp.keep (hk : Kp W h h1) (k : Nat) : Kp W h (h1.keep k) := ⟨Nat.le_trans hk.next (Nat.le_add_right _ _), fun id hu => used_keep (hk.us id hu), hk.get⟩
theorem Kp.trans (hk : Kp W h h1) (hk2 : Kp W h1 h2) : Kp W h h2 := ⟨Nat.le_trans hk.next hk2.next, fun id hu => hk2.us id (hk.us id hu), fun id hu hw => (hk2.get id (hk.us id hu) hw).trans (hk.get id hu hw)⟩
theorem Kp.mono {V : Nat → Prop} (hk : Kp W h h1) (hv : ∀ id, h.used id → W id → V id) : Kp V h h1 := ⟨hk.next, hk.us, fun id hu hw => hk.get id hu fun e => hw (hv id hu e)⟩
theorem Kp.keeps (hk : Kp W h h1) (hv : ∀ id, W id → h.next ≤ id) : Keeps h h1 := ⟨hk.next, fun id hu => hk.get id hu fun e => by have := hv id e; have := hu.1; omega⟩
end
/-- The names that a world's calls write. -/
def WN.own (md : Bool) (n : WN) (id : Nat) : Prop := id = n.p ∨ (n.a ≤ id ∧ id < n.a + 10) ∨ (md = true ∧ (id = n.o ∨ id = n.t ∨ id = n.q))
/-- All names of a world. -/
def WN.all (md : Bool) (n : WN) (id : Nat) : Prop := id = n.p ∨ id = n.l ∨ (n.a ≤ id ∧ id < n.a + 11) ∨ (md = true ∧ (id = n.o ∨ id = n.t ∨ id = n.q))
theorem WN.own_all {md : Bool} {n : WN} {id : Nat} (h : n.own md id) : n.all md id := by
  rcases h with h | h | h
  · exact .inl h
  · exact .inr (.inr (.inl (by omega)))
  · exact .inr (.inr (.inr h))
theorem WAt.used {md : Bool} {h : AHeap} {n : WN} {s : WS} (hw : WAt md h n s) (hu : ∀ id x, h.get id = some x → h.used id) : ∀ id, n.all md id → h.used id := fun id hi => by
  have hs := hw.sd
  have hd := hw.dk
  have hk := hw.ks
  rcases hi with rfl | rfl | hi | ⟨hm, rfl | rfl | rfl⟩
  · exact hu _ _ hs.pw
  · cases md with
    | true => exact hu _ _ (hw.lk.id rfl).cells
    | false => exact hu _ _ (hw.lk.re rfl)
  · have : id = n.a ∨ id = n.a + 1 ∨ id = n.a + 2 ∨ id = n.a + 3 ∨ id = n.a + 4 ∨ id = n.a + 5 ∨ id = n.a + 6 ∨ id = n.a + 7 ∨ id = n.a + 8 ∨ id = n.a + 9 ∨ id = n.a + 10 := by omega
    rcases this with rfl | rfl | rfl | rfl | rfl | rfl | rfl | rfl | rfl | rfl | rfl
    · exact hu _ _ hs.bl
    · exact hu _ _ hs.ob
    · exact hu _ _ hs.wt
    · exact hu _ _ hs.tr
    · exact hu _ _ hd.ob
    · exact hu _ _ hd.wt
    · exact hu _ _ hd.tr
    · exact hu _ _ hw.ct
    · exact hu _ _ hk.tl
    · exact hu _ _ hk.ob
    · exact hu _ _ hw.w
  all_goals
    obtain ⟨q0, q1, q2, q3⟩ := hw.lk.id hm
    first | exact hu _ _ q1 | exact hu _ _ q2 | exact hu _ _ q3
theorem WAt.kp {W : Nat → Prop} {md : Bool} {h h' : AHeap} {n : WN} {s : WS} (hw : WAt md h n s) (hu : ∀ id, n.all md id → h.used id) (hk : Kp W h h') (hd : ∀ id, n.all md id → ¬ W id) : WAt md h' n s := by
  have g : ∀ id, n.all md id → h'.get id = h.get id := fun id hi => hk.get id (hu id hi) (hd id hi)
  have ga : ∀ i, i < 11 → h'.get (n.a + i) = h.get (n.a + i) := fun i hi => g _ (.inr (.inr (.inl (by omega))))
  have g0 := g n.p (.inl rfl)
  refine ⟨hw.sd.same g0 (ga 1 (by omega)) (ga 0 (by omega)) (ga 2 (by omega)) (ga 3 (by omega)), hw.dk.same g0 (ga 4 (by omega)) (ga 5 (by omega)) (ga 6 (by omega)), (ga 7 (by omega)).trans hw.ct, hw.ks.same (ga 9 (by omega)) (ga 8 (by omega)), (ga 10 (by omega)).trans hw.w, hw.lk.same (g _ (.inr (.inl rfl))) fun e => ⟨g _ (.inr (.inr (.inr ⟨e, .inl rfl⟩))), g _ (.inr (.inr (.inr ⟨e, .inr (.inl rfl)⟩))), g _ (.inr (.inr (.inr ⟨e, .inr (.inr rfl)⟩)))⟩, hw.op, hw.ol, hw.oo, Nat.le_trans hw.nx hk.next⟩
/-- New objects alone. -/
theorem WAt.new {md : Bool} {h h' : AHeap} {n : WN} {s : WS} (hw : WAt md h n s) (hu : ∀ id, n.all md id → h.used id) (hk : Kp (fun _ => False) h h') : WAt md h' n s := hw.kp hu hk fun _ _ h => h
theorem kp_sd {md : Bool} {h : AHeap} (n : WN) (w : PwS) (x : SdS) : Kp (n.own md) h (sdPut n.sdN w x h) := by
  unfold sdPut
  refine Kp.setW (Kp.setW (Kp.setW (Kp.setW (Kp.setW Kp.refl (.inl rfl) _) (.inr (.inl ?_)) _) (.inr (.inl ?_)) _) (.inr (.inl ?_)) _) (.inr (.inl ?_)) _ <;> dsimp only <;> omega
theorem kp_dk {md : Bool} {h : AHeap} (n : WN) (w : PwS) (x : DkS) : Kp (n.own md) h (dkPut n.dkN w x h) := by
  unfold dkPut
  refine Kp.setW (Kp.setW (Kp.setW (Kp.setW Kp.refl (.inl rfl) _) (.inr (.inl ?_)) _) (.inr (.inl ?_)) _) (.inr (.inl ?_)) _ <;> dsimp only <;> omega
theorem kp_pw {md : Bool} {h : AHeap} (n : WN) (w : PwS) : Kp (n.own md) h (h.set n.p (some (.mem 4 [w.row]))) := Kp.setW Kp.refl (.inl rfl) _
theorem kp_ct {md : Bool} {h : AHeap} (n : WN) (w : PwS) (c : CtS) : Kp (n.own md) h ((h.set n.p (some (.mem 4 [w.row]))).set (n.a + 7) (some (c.obj n.p))) := Kp.setW (Kp.setW Kp.refl (.inl rfl) _) (.inr (.inl (by omega))) _
theorem kp_ks {md : Bool} {h : AHeap} (n : WN) (w : PwS) (k : KsS) : Kp (n.own md) h (ksPut n.p (n.a + 9) (n.a + 8) w k h) := by
  unfold ksPut
  refine Kp.setW (Kp.setW (Kp.setW Kp.refl (.inl rfl) _) (.inr (.inl ?_)) _) (.inr (.inl ?_)) _ <;> omega
end Go.Proofs.Ytjehfcjfnmcjcaa


namespace Go.Proofs.Ytjehfcjfnmcjcaa
open Go Go.Abs

def zeros (n : Nat) : Bs := List.replicate n 0
end Go.Proofs.Ytjehfcjfnmcjcaa


namespace Go.Proofs.Ytjehfcjfnmcjcaa
open Go Go.Abs

def WN.devs (n : WN) : List Nat := [n.p, n.a, n.a + 1, n.a + 2, n.a + 3, n.a + 4, n.a + 5, n.a + 6, n.a + 7, n.a + 8, n.a + 9]
section
variable {nx : Nat} {h0 h : AHeap}
theorem phi_sd (n : WN) (w : PwS) (x : SdS) (hp : PhiW nx n.devs h0 h) : PhiW nx n.devs h0 (sdPut n.sdN w x h) := by
  unfold sdPut
  refine PhiW.setW ?_ (PhiW.setW ?_ (PhiW.setW ?_ (PhiW.setW ?_ (PhiW.setW ?_ hp)))) <;> simp [WN.devs]
theorem phi_dk (n : WN) (w : PwS) (x : DkS) (hp : PhiW nx n.devs h0 h) : PhiW nx n.devs h0 (dkPut n.dkN w x h) := by
  unfold dkPut
  refine PhiW.setW ?_ (PhiW.setW ?_ (PhiW.setW ?_ (PhiW.setW ?_ hp))) <;> simp [WN.devs]
theorem phi_ct (n : WN) (w : PwS) (c : CtS) (hp : PhiW nx n.devs h0 h) : PhiW nx n.devs h0 ((h.set n.p (some (.mem 4 [w.row]))).set (n.a + 7) (some (c.obj n.p))) :=
  PhiW.setW (by simp [WN.devs]) (PhiW.setW (by simp [WN.devs]) hp)
theorem phi_ks (n : WN) (w : PwS) (k : KsS) (hp : PhiW nx n.devs h0 h) : PhiW nx n.devs h0 (ksPut n.p (n.a + 9) (n.a + 8) w k h) := by
  unfold ksPut
  refine PhiW.setW ?_ (PhiW.setW ?_ (PhiW.setW ?_ hp)) <;> simp [WN.devs]
theorem phi_w {n : WN} (hop : n.p < n.a) (hp : PhiW nx n.devs h0 h) (hx : n.a + 11 ≤ nx) : h.get (n.a + 10) = h0.get (n.a + 10) := hp _ (by omega) (by simp only [WN.devs, List.mem_cons, List.not_mem_nil, or_false]; omega)
end
theorem DW.named {P : Program} {N : Nat} {Φ : AHeap → Prop} {ws fs : List Nat} {K : Env → AHeap → Prop} {j : Nat} {l : List CI} {e : Env} {h : AHeap} (p : AHeap → Prop) (hp : p h) (k : ∀ h5, p h5 → DW P N Φ ws fs K j l e h5) : DW P N Φ ws fs K j l e h := k h hp
/-- Power with a fuse of n, behind i steps that were tried. -/
def pwK (n : Int) : Nat → PwS
  | 0 => ⟨false, decide (0 ≤ n), n, 0⟩
  | i + 1 => (pwK n i).spend
theorem pwK_ok {n : Int} (hn : 0 ≤ n ∧ n ≤ 6) : ∀ i, (pwK n i).Ok i
  | 0 => ⟨fun _ => by show 0 ≤ n; omega, ⟨by show _ ≤ n; omega, by show n ≤ _; omega⟩, by show (0 : Int) ≤ 0; omega, by show (0 : Int) ≤ _; omega⟩
  | i + 1 => (pwK_ok hn i).spend
theorem pwK_can {n : Int} (hn : 0 ≤ n ∧ n ≤ 6) (i : Nat) (hi : i < 6) : (pwK n i).can = decide ((i : Int) < n) := by
  have h1 : n = 0 ∨ n = 1 ∨ n = 2 ∨ n = 3 ∨ n = 4 ∨ n = 5 ∨ n = 6 := by omega
  have h2 : i = 0 ∨ i = 1 ∨ i = 2 ∨ i = 3 ∨ i = 4 ∨ i = 5 := by omega
  rcases h1 with rfl | rfl | rfl | rfl | rfl | rfl | rfl <;> rcases h2 with rfl | rfl | rfl | rfl | rfl | rfl <;> decide
theorem pwK_steps {n : Int} (hn : 0 ≤ n ∧ n ≤ 6) : (pwK n 6).steps = n := by
  have h1 : n = 0 ∨ n = 1 ∨ n = 2 ∨ n = 3 ∨ n = 4 ∨ n = 5 ∨ n = 6 := by omega
  rcases h1 with rfl | rfl | rfl | rfl | rfl | rfl | rfl <;> decide
theorem ct_ok0 (k : Nat) : CtS.Ok ⟨0, 0, 0⟩ k := ⟨by simp, by simp, by simp⟩
theorem sd_one (n : Nat) (c : Bool) : ∀ o ∈ (SdS.write (sd0 n) (0, [1]) c).waits, o = (0, [1]) := by
  cases c <;> simp [SdS.write, sd0]
theorem sd_one_len (n : Nat) (c : Bool) : (SdS.write (sd0 n) (0, [1]) c).waits.length ≤ 1 ∧ (SdS.write (sd0 n) (0, [1]) c).trace.length ≤ 1 := by
  cases c <;> simp [SdS.write, sd0]
theorem WAt.nilCrash {h : AHeap} (keep : List Bool) : AE Try.prog 38 [.nilp, .imm 1 (keep.map encBo)] h (.tup []) h := by
  refine AE.pureW is_world_World_Crash (by simp) ?_
  unfold c_world_World_Crash
  (refine go ?_)
  refine WW.ret (PureQ.finD ?_)
  exact fz_unit
theorem WAt.nilKey {h : AHeap} : AE Try.prog 24 [.nilp] h (.tup [.int .u32 0, .agg (encP (0, 0))]) h := by
  refine AE.pureW is_world_World_Key (by simp) ?_
  unfold c_world_World_Key
  (refine go ?_)
  refine WW.ret (PureQ.finD ?_)
  exact Fz.tup2 (.clo _ (.int _ _)) (fz_agg rfl (by simp [AV.flat]))
set_option maxHeartbeats 4000000 in
theorem law20_WorldOne_ae (m : Int) (h : AHeap) : AE Try.prog 6 [.int .i64 m] h (.bool true) h := by
  refine AE.pureW is_law20_WorldOne (by simp) ?_
  unfold c_law20_WorldOne
  (refine go ?_)
  (apply WL.orB; exact rfl; exact rfl; exact rfl; exact BP.of; intro hz1)
  · (repeat first | (apply GW.goS; exact Stp.auto) | apply GW.nil | exact rfl)
  (refine go ?_)
  (refine WW.ifB rfl (fun hz2 => ?_) (fun hz2 => ?_))
  · (refine go ?_)
    refine WW.ret (PureQ.finD ?_)
    exact fz_b rfl
  have hc : 0 ≤ m ∧ m ≤ 6 := by simp at hz2; omega
  (refine go ?_)
  refine WL.callA rfl (by first | exact True.intro | exact rfl) gSL (AC.used (world_New_ac false 8 rfl 3 h)) ?_
  rintro _ h1 ⟨⟨n, rfl, hw, np, nl, no, nn, kk⟩, hus, hlv⟩
  replace kk := kk h (Keeps.refl _)
  have hop := hw.op
  have hall : ∀ id, n.all false id → h.next ≤ id := fun id hi => by
    rcases hi with rfl | rfl | hi | ⟨e, _⟩
    · exact np
    · exact nl
    · omega
    · cases e
  have hown : ∀ id, n.own false id → h.next ≤ id := fun id hi => hall id (WN.own_all hi)
  have k1 : Kp (fun id => h.next ≤ id) h h1 := ⟨nn, hus, fun id hu _ => kk.2 id hu⟩
  clear kk no hus hlv
  have hnx := hw.nx
  have hol := hw.ol
  have hob := hw.w
  simp only [wRow] at hob
  (refine go ?_)
  refine WL.call rfl (by first | exact True.intro | exact rfl) gSL (power_Fuse_ae hw.sd.pw m) ?_
  refine WL.named (fun h2 => WAt false h2 n { ws0 8 3 with pw := pwK m 0 } ∧ Kp (fun id => h.next ≤ id) h h2) ⟨hw.putPw _, k1.trans ((kp_pw (md := false) n _).mono fun id _ hi => hown id hi)⟩ ?_
  clear hob hw k1 hnx
  rintro h2 ⟨hw, k2⟩
  have hob := hw.w
  have hnx := hw.nx
  simp only [wRow] at hob
  obtain ⟨nx, hx⟩ : ∃ nx, h2.next = nx := ⟨_, rfl⟩
  rw [hx] at hnx
  have hph : PhiW nx n.devs h2 h2 := PhiW.refl
  (repeat first | refine WL.go ?_ | refine WW.seq ?_ | refine WW.reg ?_ | refine WL.nil ?_ | refine WW.skip ?_ | refine WW.block ?_ | refine WW.exit ?_ | refine WW.condT rfl ?_ | refine WW.condF rfl ?_ | refine WL.gox ?_ | refine thenN ?_ | refine blkN ?_)
  refine WW.dregX [5, 11, 16, 21, 26, 31] [3, 4, 9, 10, 15, 20, 25, 30] n.devs gN (by decide +kernel) ?_
  have hl : (ws0 8 3).sd.lasts.length = 1400 := (List.length_replicate : (List.replicate (8 * 160 + 120) (0 : UInt8)).length = 8 * 160 + 120)
  obtain ⟨k, hk⟩ : ∃ k : Kp (fun id => h.next ≤ id) h h2, k = k2 := ⟨k2, rfl⟩
  clear hk
  have c0 := pwK_can hc 0 (by omega)
  have c1 := pwK_can hc 1 (by omega)
  have c2 := pwK_can hc 2 (by omega)
  have c3 := pwK_can hc 3 (by omega)
  have c4 := pwK_can hc 4 (by omega)
  have c5 := pwK_can hc 5 (by omega)
  iterate 3 (refine DW.go ?_)
  refine DW.goF ?_ (hs := fun h3 hp3 => Stp.load1 rfl ((phi_w hop hp3 hnx).trans hob) rfl (by first | exact True.intro | exact rfl)) (hp := hph)
  refine DW.goF ?_ (hp := hph)
  have hin0 : inB 1400 0 (([1] : Bs).length : Nat) = true := by simp [inB]
  have hmay : dk0.may 0 (zeros 32) = true := by simp [DkS.may, zeros, dk0]
  refine DW.callSW rfl (by first | exact True.intro | exact rfl) gSL rfl rfl (fun hp => phi_sd n _ _ hp) (ssd_Write_ae hw.sd (pwK_ok hc 0) (by omega) (by rw [hl]; omega) (Nat.zero_le _) (Nat.zero_le _) 0 [1] (by decide)) ?_
  rw [hl, hin0]
  simp only [Bool.true_and, if_true]
  refine DW.named (fun h3 => WAt false h3 n { ws0 8 3 with pw := pwK m 1, sd := SdS.write (ws0 8 3).sd (0, [1]) (pwK m 0).can } ∧ Kp (fun id => h.next ≤ id) h h3 ∧ PhiW nx n.devs h2 h3) ⟨hw.putSd _ _, k.trans ((kp_sd (md := false) n _ _).mono fun id _ hi => hown id hi), phi_sd n _ _ hph⟩ ?_
  clear hw k hph
  rintro h3 ⟨hw, k, hph⟩
  iterate 3 (refine DW.go ?_)
  refine DW.goF ?_ (hs := fun h3 hp3 => Stp.load1 rfl ((phi_w hop hp3 hnx).trans hob) rfl (by first | exact True.intro | exact rfl)) (hp := hph)
  refine DW.fxF (fun h2 _ => FX.mkslI (n := 32) rfl rfl rfl rfl (by decide) (by first | exact True.intro | exact rfl)) rfl hph ?_
  rw [show List.replicate 32 [AV.int .u8 0] = (zeros 32).map encB from rfl]
  refine DW.callSW rfl (by first | exact True.intro | exact rfl) gSL rfl rfl (fun hp => phi_dk n _ _ hp) (disk_Write_ae hw.dk (pwK_ok hc 1) (by omega) (Nat.zero_le _) (Nat.zero_le _) 0 (zeros 32) (by decide)) ?_
  rw [show (ws0 8 3).dk = dk0 from rfl, hmay]
  simp only [Bool.true_and, if_true]
  refine DW.named (fun h3 => WAt false h3 n { ws0 8 3 with pw := pwK m 2, sd := SdS.write (ws0 8 3).sd (0, [1]) (pwK m 0).can, dk := dk0.write (0, zeros 32) (pwK m 1).can } ∧ Kp (fun id => h.next ≤ id) h h3 ∧ PhiW nx n.devs h2 h3) ⟨hw.putDk _ _ (by unfold DkS.write; split <;> rfl), k.trans ((kp_dk (md := false) n _ _).mono fun id _ hi => hown id hi), phi_dk n _ _ hph⟩ ?_
  clear hw k hph
  rintro h3 ⟨hw, k, hph⟩
  iterate 3 (refine DW.go ?_)
  refine DW.goF ?_ (hs := fun h3 hp3 => Stp.load1 rfl ((phi_w hop hp3 hnx).trans hob) rfl (by first | exact True.intro | exact rfl)) (hp := hph)
  refine DW.callSW rfl (by first | exact True.intro | exact rfl) gSL rfl rfl (fun hp => phi_ct n _ _ hp) (count_Boot_ae (p := n.p) hw.sd.pw hw.ct (pwK_ok hc 2) (ct_ok0 2) (by omega)) ?_
  refine DW.named (fun h3 => WAt false h3 n { ws0 8 3 with pw := pwK m 3, sd := SdS.write (ws0 8 3).sd (0, [1]) (pwK m 0).can, dk := dk0.write (0, zeros 32) (pwK m 1).can, ct := CtS.boot ⟨0, 0, 0⟩ (pwK m 2).can } ∧ Kp (fun id => h.next ≤ id) h h3 ∧ PhiW nx n.devs h2 h3) ⟨hw.putCt _ _, k.trans ((kp_ct (md := false) n _ _).mono fun id _ hi => hown id hi), phi_ct n _ _ hph⟩ ?_
  clear hw k hph
  rintro h3 ⟨hw, k, hph⟩
  iterate 3 (refine DW.go ?_)
  refine DW.goF ?_ (hs := fun h3 hp3 => Stp.load1 rfl ((phi_w hop hp3 hnx).trans hob) rfl (by first | exact True.intro | exact rfl)) (hp := hph)
  refine DW.callSW rfl (by first | exact True.intro | exact rfl) gSL rfl rfl (fun hp => phi_ks n _ _ hp) (keys_Add_ae hw.sd.pw hw.ks (pwK_ok hc 3) (by omega) (by show (0 : Int) ≤ 1 ∧ (1 : Int) < _; omega) (by show 1 ≤ _; omega)) ?_
  refine DW.named (fun h3 => WAt false h3 n { ws0 8 3 with pw := pwK m 4, sd := SdS.write (ws0 8 3).sd (0, [1]) (pwK m 0).can, dk := dk0.write (0, zeros 32) (pwK m 1).can, ct := CtS.boot ⟨0, 0, 0⟩ (pwK m 2).can, ks := KsS.add ⟨3, [1]⟩ (pwK m 3).can } ∧ Kp (fun id => h.next ≤ id) h h3 ∧ PhiW nx n.devs h2 h3) ⟨hw.putKs _ _ (by cases (pwK m 3).can <;> simp [KsS.add, ws0]) (by cases (pwK m 3).can <;> simp [KsS.add, ws0]), k.trans ((kp_ks (md := false) n _ _).mono fun id _ hi => hown id hi), phi_ks n _ _ hph⟩ ?_
  clear hw k hph
  rintro h3 ⟨hw, k, hph⟩
  iterate 3 (refine DW.go ?_)
  refine DW.goF ?_ (hs := fun h3 hp3 => Stp.load1 rfl ((phi_w hop hp3 hnx).trans hob) rfl (by first | exact True.intro | exact rfl)) (hp := hph)
  refine DW.callSW rfl (by first | exact True.intro | exact rfl) gSL rfl rfl (fun hp => phi_ct n _ _ hp) (count_Bump_ae (p := n.p) hw.sd.pw hw.ct (pwK_ok hc 4) (CtS.Ok.boot (ct_ok0 3) _) (by omega)) ?_
  refine DW.named (fun h3 => WAt false h3 n { ws0 8 3 with pw := pwK m 5, sd := SdS.write (ws0 8 3).sd (0, [1]) (pwK m 0).can, dk := dk0.write (0, zeros 32) (pwK m 1).can, ct := (CtS.boot ⟨0, 0, 0⟩ (pwK m 2).can).bump (pwK m 4).can, ks := KsS.add ⟨3, [1]⟩ (pwK m 3).can } ∧ Kp (fun id => h.next ≤ id) h h3 ∧ PhiW nx n.devs h2 h3) ⟨hw.putCt _ _, k.trans ((kp_ct (md := false) n _ _).mono fun id _ hi => hown id hi), phi_ct n _ _ hph⟩ ?_
  clear hw k hph
  rintro h3 ⟨hw, k, hph⟩
  iterate 3 (refine DW.go ?_)
  refine DW.goF ?_ (hs := fun h3 hp3 => Stp.load1 rfl ((phi_w hop hp3 hnx).trans hob) rfl (by first | exact True.intro | exact rfl)) (hp := hph)
  have hwl : ∀ c, (SdS.write (ws0 8 3).sd (0, [1]) c).lasts.length = 1400 := fun c => by cases c <;> exact hl
  refine DW.callSW rfl (by first | exact True.intro | exact rfl) gSL rfl rfl (fun hp => phi_sd n _ _ hp) (ssd_Barrier_ae hw.sd (pwK_ok hc 5) (by omega) (by rw [hwl]; omega) (Nat.le_trans (sd_one_len 1400 _).1 (by omega)) (Nat.le_trans (sd_one_len 1400 _).2 (by omega)) (fun o ho => by rw [hwl, sd_one _ _ o ho]; simp)) ?_
  refine DW.named (fun h3 => WAt false h3 n { ws0 8 3 with pw := pwK m 6, sd := (SdS.write (ws0 8 3).sd (0, [1]) (pwK m 0).can).barrier (pwK m 5).can, dk := dk0.write (0, zeros 32) (pwK m 1).can, ct := (CtS.boot ⟨0, 0, 0⟩ (pwK m 2).can).bump (pwK m 4).can, ks := KsS.add ⟨3, [1]⟩ (pwK m 3).can } ∧ Kp (fun id => h.next ≤ id) h h3 ∧ PhiW nx n.devs h2 h3) ⟨hw.putSd _ _, k.trans ((kp_sd (md := false) n _ _).mono fun id _ hi => hown id hi), phi_sd n _ _ hph⟩ ?_
  clear hw k hph
  rintro h3 ⟨hw, k, hph⟩
  simp only [ws0, c0, c1, c2, c3, c4, c5]
  (refine go ?_)
  clear hob hnx hph hx
  refine WW.loopE (fun (i : Nat) => [(0, some (.int .i64 m)), (3, some (.ptr (n.a + 10) 0 0)), (5, some (.int .i64 (min (i : Int) m))), (6, some (.imm 1 ((List.range 6).map fun (j : Nat) => [.bool (decide ((j : Int) < m))]))), (7, some (.int .i64 i))])
    (fun i h' => h3 = h' ∧ i ≤ 6) (fun i => 6 - i) 0 ?_ ⟨rfl, by omega⟩ ?_
  · rw [show min (((0 : Nat) : Int)) m = 0 by omega]
    exact gSUB
  rintro i _ ⟨rfl, i1⟩
  (refine go ?_)
  (refine WW.ifB rfl (fun hz3 => ?_) (fun hz3 => ?_))
  · have hi : i < 6 := by omega
    (refine go ?_)
    rw [beq_self_eq_true]
    (refine go ?_)
    (refine WW.ifB rfl (fun hz4 => ?_) (fun hz4 => ?_))
    · (refine go ?_)
      refine ⟨i + 1, ?_, ⟨rfl, by omega⟩, by omega⟩
      rw [show min (((i + 1 : Nat) : Int)) m = min (i : Int) m + 1 by omega]
      exact gSUB
    · (refine go ?_)
      refine ⟨i + 1, ?_, ⟨rfl, by omega⟩, by omega⟩
      rw [show min (((i + 1 : Nat) : Int)) m = min (i : Int) m by omega]
      exact gSUB
  · have hi : i = 6 := by omega
    subst hi
    (refine go ?_)
    rw [show min (((6 : Nat) : Int)) m = m by omega]
    refine WL.call rfl (by first | exact True.intro | exact rfl) gSL (WAt.nilCrash []) ?_
    (refine go ?_)
    refine WL.call rfl (by first | exact True.intro | exact rfl) gSL (WAt.nilKey) ?_
    have kk : Keeps h h3 := k.keeps fun _ h => h
    have hob := hw.w
    simp only [wRow] at hob
    have hnx := hw.nx
    (refine go ?_)
    rw [beq_self_eq_true]
    (refine go ?_)
    refine WL.call rfl (by first | exact True.intro | exact rfl) gSL (power_Steps_ae (s := pwK m 6) ((gE : _ = h3.get n.p).trans hw.sd.pw)) ?_
    rw [pwK_steps hc]
    (refine go ?_)
    rw [beq_self_eq_true]
    (refine go ?_)
    refine WL.call rfl (by first | exact True.intro | exact rfl) gSL (law20_known_ae _) ?_
    (refine go ?_)
    refine WW.ret (PureQ.finD ?_)
    exact fz_b rfl
theorem top_WorldOne (c0 : List AV) (t0 : TypL [.i .i64] c0) :
    AE Try.prog 6 [c0.headD .nilp] noHeap (.bool true) noHeap := by
  obtain ⟨k, rfl, _⟩ := int_of t0
  exact law20_WorldOne_ae k noHeap
end Go.Proofs.Ytjehfcjfnmcjcaa


