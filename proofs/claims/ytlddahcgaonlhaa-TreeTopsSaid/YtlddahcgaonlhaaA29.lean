/- The abstract layer, part 29: 'and', 'or' in one way. -/
import Derived.Test.YtlddahcgaonlhaaA28
set_option linter.all false
namespace Go.Abs
open Go

def splitG (g : Nat × Bool) : List CI → List CI × List CI
  | [] => ([], [])
  | c :: l => match c.g with
    | none => ([], c :: l)
    | some (s, b) => match Nat.beq s g.1, b == g.2 with
      | true, true => (c :: (splitG g l).1, (splitG g l).2)
      | _, _ => ([], c :: l)
theorem splitG_app (g : Nat × Bool) : ∀ l, l = (splitG g l).1 ++ (splitG g l).2
  | [] => rfl
  | c :: l => by
    simp only [splitG]
    split
    · rfl
    · split
      · simpa using splitG_app g l
      · rfl
theorem splitG_g (g : Nat × Bool) : ∀ l, ∀ c ∈ (splitG g l).1, c.g = some g
  | [], c, hc => by simp [splitG] at hc
  | x :: l, c, hc => by
    simp only [splitG] at hc
    split at hc
    · simp at hc
    · rename_i s b hxg
      split at hc
      · rename_i h1 h2
        rcases List.mem_cons.1 hc with rfl | hc
        · rw [hxg]
          have e1 := Nat.eq_of_beq_eq_true h1
          have e2 : b = g.2 := by simpa using h2
          rw [e1, e2]
        · exact splitG_g g l c hc
      · simp at hc
def kill : List CI → Env → Env
  | [], e => e
  | c :: l, e => kill l (putR c.d none e)

section
variable {P : Program} {N : Nat} {e e' : Env} {h h' : AHeap} {Q : Exit → Env → AHeap → Prop} {l l1 rest : List CI} {K : Env → Prop}

/-- A list whose operations leave the heap as it is. -/
inductive GW (P : Program) (N : Nat) (K : Env → Prop) : List CI → Env → AHeap → Prop
  | nil {e : Env} {h : AHeap} (hk : K e) : GW P N K [] e h
  | fx {c : CI} {l : List CI} {e : Env} {h : AHeap} {r : Option AV} (hx : FX P N c e h r h) (k : GW P N K l (putR c.d r e) h) : GW P N K (c :: l) e h
theorem GW.goS {c : CI} (hs : Stp c e h e' h) (k : GW P N K l e' h) : GW P N K (c :: l) e h := by
  obtain ⟨r, he, hx, _⟩ := FX.of_stp (P := P) (N := N) hs
  subst he
  exact .fx hx k
theorem GW.call {d : Option Nat} {f : Nat} {xs : List Opd} {g : Option (Nat × Bool)} {vs us : List AV} {r : AV} (hv : evL e xs = some us) (hg : met e g) (hs : SubL us vs) (hac : AE P f vs h r h) (k : GW P N K l (putR d (some r) e) h) : GW P N K (⟨d, .call f xs, g⟩ :: l) e h :=
  .fx (FX.call hg hv (hac.sub hs)) k

theorem subE_put {e1 e2 : Env} (hs : subE e1 e2) (d : Option Nat) (r : Option AV) : subE (putR d none e1) (putR d r e2) := by
  intro i v hv
  cases d with
  | none => exact hs i v hv
  | some d =>
    simp only [putR, lk_cons] at hv ⊢
    split at hv
    · cases hv
    · rename_i hne; rw [if_neg hne]; exact hs i v hv
theorem AL.gw (hw : GW P N K l1 e h) : ∀ e0, subE e0 e → (∀ e', K e' → subE (kill l1 e0) e' → AL P N rest Q e' h) → AL P N (l1 ++ rest) Q e h := by
  induction hw with
  | nil hk => exact fun e0 hs k => k _ hk hs
  | fx hx _ ih => exact fun e0 hs k => AL.fx hx (ih _ (subE_put hs _ _) k)
theorem lk_kill {s : Nat} {v : AV} : ∀ (l : List CI) {e : Env}, l.all (fun c => c.d != some s) = true → lk s e = some v → lk s (kill l e) = some v
  | [], e, _, hv => hv
  | c :: l, e, ha, hv => by
    simp only [List.all_cons, Bool.and_eq_true] at ha
    refine lk_kill l ha.2 ?_
    cases hd : c.d with
    | none => exact hv
    | some d =>
      have : d ≠ s := by have := ha.1; rw [hd] at this; simpa using this
      simp only [putR, lk_cons]
      rw [if_neg fun e => this e.symm]; exact hv
theorem AL.unmet {s : Nat} {b t : Bool} (hne : t ≠ b) : ∀ (l1 : List CI) {e : Env}, (∀ c ∈ l1, c.g = some (s, b)) → l1.all (fun c => c.d != some s) = true → lk s e = some (.bool t) → AL P N rest Q (kill l1 e) h → AL P N (l1 ++ rest) Q e h
  | [], e, _, _, _, k => k
  | c :: l, e, hg, ha, hs, k => by
    have ha' := ha
    simp only [List.all_cons, Bool.and_eq_true] at ha'
    refine AL.fx (FX.skip (hg c (by simp)) hs hne) (AL.unmet hne l (fun c hc => hg c (by simp [hc])) ha'.2 ?_ k)
    exact lk_kill [c] (by simpa using ha'.1) hs
theorem BP.of {t : Bool} {p q : Prop} (hb : BP t p q := by first | exact BP.lt _ _ | exact BP.le _ _ | exact BP.gt _ _ | exact BP.ge _ _ | exact BP.eq _ _ | exact BP.ne _ _ | exact BP.eqL _ _ | exact BP.neL _ _ | exact BP.dec _ | exact BP.not _ _ _ (BP.lt _ _) | exact BP.not _ _ _ (BP.eq _ _) | exact BP.not _ _ _ (BP.eqL _ _) | exact BP.not _ _ _ (BP.dec _) | exact BP.not _ _ _ (BP.var _) | exact BP.var _) : BP t p q := hb
theorem WL.andB {dd : Option Nat} {i : Ins} {s d r : Nat} {t u : Bool} {p q : Prop} (hs : lk s e = some (.bool t)) (hsp : splitG (s, true) (⟨dd, i, some (s, true)⟩ :: l) = (l1, ⟨some d, .pick (.t s) (.t r) (.c (.bool false)), none⟩ :: rest)) (ha : l1.all (fun c => c.d != some s) = true) (hb : BP t p q)
    (h1 : p → GW P N (fun e' => lk r e' = some (.bool u)) l1 ((s, some (.bool true)) :: e) h) (k : WL P N rest Q ((d, some (.bool (t && u))) :: kill l1 e) h) : WL P N (⟨dd, i, some (s, true)⟩ :: l) Q e h := by
  have hl := splitG_app (s, true) (⟨dd, i, some (s, true)⟩ :: l)
  have hg := splitG_g (s, true) (⟨dd, i, some (s, true)⟩ :: l)
  rw [hsp] at hl hg
  rw [hl]
  cases t with
  | false => exact ⟨AL.unmet (by simp) l1 hg ha hs (AL.auto (Stp.pickF (lk_kill l1 ha hs) rfl trivial) k.out)⟩
  | true =>
    have h0 : subE ((s, some (.bool true)) :: e) e := fun i v hv => by
      simp only [lk_cons] at hv
      split at hv
      · rename_i e1; subst e1; cases hv; exact hs
      · exact hv
    have h2 : subE e ((s, some (.bool true)) :: e) := fun i v hv => by
      simp only [lk_cons]
      split
      · rename_i e1; subst e1; rw [hs] at hv; exact hv
      · exact hv
    refine ⟨AL.env h0 (AL.gw (h1 (hb.both.1 rfl)) _ h2 fun e' hr hk => AL.auto (Stp.pickT (hk s _ (lk_kill l1 ha hs)) hr trivial) (AL.env ?_ k.out))⟩
    intro i v hv
    simp only [lk_cons] at hv ⊢
    split at hv
    · rename_i he; rw [if_pos he]; simpa using hv
    · rename_i hne; rw [if_neg hne]; exact hk i v hv
theorem WL.orB {dd : Option Nat} {i : Ins} {s d r : Nat} {t u : Bool} {p q : Prop} (hs : lk s e = some (.bool t)) (hsp : splitG (s, false) (⟨dd, i, some (s, false)⟩ :: l) = (l1, ⟨some d, .pick (.t s) (.c (.bool true)) (.t r), none⟩ :: rest)) (ha : l1.all (fun c => c.d != some s) = true) (hb : BP t p q)
    (h1 : q → GW P N (fun e' => lk r e' = some (.bool u)) l1 ((s, some (.bool false)) :: e) h) (k : WL P N rest Q ((d, some (.bool (t || u))) :: kill l1 e) h) : WL P N (⟨dd, i, some (s, false)⟩ :: l) Q e h := by
  have hl := splitG_app (s, false) (⟨dd, i, some (s, false)⟩ :: l)
  have hg := splitG_g (s, false) (⟨dd, i, some (s, false)⟩ :: l)
  rw [hsp] at hl hg
  rw [hl]
  cases t with
  | true => exact ⟨AL.unmet (by simp) l1 hg ha hs (AL.auto (Stp.pickT (lk_kill l1 ha hs) rfl trivial) k.out)⟩
  | false =>
    have h0 : subE ((s, some (.bool false)) :: e) e := fun i v hv => by
      simp only [lk_cons] at hv
      split at hv
      · rename_i e1; subst e1; cases hv; exact hs
      · exact hv
    have h2 : subE e ((s, some (.bool false)) :: e) := fun i v hv => by
      simp only [lk_cons]
      split
      · rename_i e1; subst e1; rw [hs] at hv; exact hv
      · exact hv
    refine ⟨AL.env h0 (AL.gw (h1 (hb.both.2 rfl)) _ h2 fun e' hr hk => AL.auto (Stp.pickF (hk s _ (lk_kill l1 ha hs)) hr trivial) (AL.env ?_ k.out))⟩
    intro i v hv
    simp only [lk_cons] at hv ⊢
    split at hv
    · rename_i he; rw [if_pos he]; simpa using hv
    · rename_i hne; rw [if_neg hne]; exact hk i v hv
theorem thenB {id : Nat} {K : Env → AHeap → Prop} (hk : K e h) : blockQ id (thenQ K Q) .normal e h := hk
/-! ### answers told in another way -/
def CvtV (u : AV) (h : AHeap) (v : AV) (h' : AHeap) : Prop := ∀ (m : Inj) (w : World) (c : Value), HR m h w → VR m h w u c → ∃ m', HR m' h' w ∧ VR m' h' w v c ∧ Step m h w m' h' w
theorem CvtV.refl (u : AV) : CvtV u h u h := fun m w c hr hv => ⟨m, hr, hv, Step.refl _ _ _⟩
theorem AC.mapR {f : Nat} {vs : List AV} {R R2 : AV → AHeap → Prop} (hac : AC P f vs h R) (hc : ∀ r h1, R r h1 → ∃ r2 h2, CvtV r h1 r2 h2 ∧ R2 r2 h2) : AC P f vs h R2 := fun m w cargs hr hl hv =>
  (hac m w cargs hr hl hv).mono fun ex w' ⟨v, m', r, h1, e1, g1, g2, g3, hR⟩ => by
    obtain ⟨r2, h2, hcv, hR2⟩ := hc r h1 hR
    obtain ⟨m2, k1, k2, k3⟩ := hcv m' w' v g1 g2
    exact ⟨v, m2, r2, h2, e1, k1, k2, g3.trans k3, hR2⟩
theorem CvtV.grow {id n sz nx : Nat} {c c' : List (List AV)} (hg : h.get id = some (.mem sz c)) (hc : c.take n = c') (hn : h.next = nx) : CvtV (.ref id 0 n) h (.app nx 0 sz c') ((h.set id none).put nx (.tail 0 n)) := fun m w cv hr hv => by
  subst hn hc
  obtain ⟨m', k1, k2, k3⟩ := ref_app hr (next_fresh hr) hg hv
  exact ⟨m', k1, k3, k2⟩
theorem CvtV.adopt {sz nx : Nat} (hn : h.next = nx) : CvtV .nils h (.app nx 0 sz []) (h.put nx (.tail 0 0)) := fun m w cv hr hv => by
  subst hn
  have hf := next_fresh hr
  refine ⟨_, hr.putv hf, ?_, step_putv hr hf⟩
  cases hv with
  | nils0 => exact .app0 _ _ _ put_used_nm (tok_new (by simp [upd]))
  | nils1 a => exact .app1 _ _ _ _ put_used_nm (tok_new (by simp [upd]))
end
end Go.Abs
