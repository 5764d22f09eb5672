/- The abstract layer, part 21: walks through regions whose order is drawn. -/
import Derived.Test.YtlddahcgaonlhaaA20
set_option linter.all false
namespace Go.Abs
open Go

section
variable {P : Program} {N : Nat} {e e' e2 : Env} {h h' : AHeap} {Φ : AHeap → Prop} {ws fs : List Nat} {K : Env → AHeap → Prop} {l : List CI} {j : Nat}

theorem FX.env {c : CI} {r : Option AV} (hs : ∀ s, lk s e2 = lk s e) (hx : FX P N c e2 h r h') : FX P N c e h r h' :=
  fun ops i o ho hc e3 h3 => hx ops i o ho hc e3 fun s hs' => (h3 s hs').trans (hs s).symm
theorem lk_putR_congr {d : Option Nat} {r : Option AV} (hs : ∀ s, lk s e2 = lk s e) : ∀ s, lk s (putR d r e2) = lk s (putR d r e) := fun s => by
  by_cases hd : d = some s
  · subst hd; rw [lk_putR_same, lk_putR_same]
  · rw [lk_putR_ne hd, lk_putR_ne hd, hs]
theorem DW.env (hd : DW P N Φ ws fs K j l e2 h) : ∀ {e : Env}, (∀ s, lk s e2 = lk s e) → DW P N Φ ws fs K j l e h := by
  induction hd with
  | nil hs hk => exact fun he => .nil (fun i v hv => (he i) ▸ hs i v hv) hk
  | fx hx h0 hw hp hf _ ih => exact fun he => .fx (hx.env he) (fun hz => ⟨(h0 hz).1, fun h2 => ((h0 hz).2 h2).env he⟩) hw hp (fun hz h2 hp2 => (hf hz h2 hp2).env he) (ih (lk_putR_congr he))
theorem DW.pin {s : Nat} {t : Bool} (hc : lk s e = some (.bool t)) (h1 : t = true → DW P N Φ ws fs K j l ((s, some (.bool true)) :: e) h) (h2 : t = false → DW P N Φ ws fs K j l ((s, some (.bool false)) :: e) h) : DW P N Φ ws fs K j l e h := by
  have key : ∀ b, t = b → ∀ i, lk i ((s, some (.bool b)) :: e) = lk i e := fun b hb i => by
    simp only [lk_cons, lk_nil]
    split
    · rename_i e1; subst e1; rw [hc, hb]
    · rfl
  cases t
  · exact (h2 rfl).env (key false rfl)
  · exact (h1 rfl).env (key true rfl)
/-- The next instruction's guard, one way and the other. -/
theorem DW.split {dd : Option Nat} {i : Ins} {s : Nat} {b t : Bool} (hc : lk s e = some (.bool t)) (h1 : t = true → DW P N Φ ws fs K j (⟨dd, i, some (s, b)⟩ :: l) ((s, some (.bool true)) :: e) h) (h2 : t = false → DW P N Φ ws fs K j (⟨dd, i, some (s, b)⟩ :: l) ((s, some (.bool false)) :: e) h) : DW P N Φ ws fs K j (⟨dd, i, some (s, b)⟩ :: l) e h := DW.pin hc h1 h2

theorem DW.endL (hk : K e h) : DW P N Φ ws fs K j [] e h := .nil (fun _ _ hv => hv) hk
/-- An operation that leaves the heap as it is. -/
theorem DW.one {c : CI} (hs : Stp c e h e' h) (hf : fs.contains j = false) (k : DW P N Φ ws fs K (j + 1) l e' h) : DW P N Φ ws fs K j (c :: l) e h := by
  obtain ⟨r, he, hx, h0⟩ := FX.of_stp (P := P) (N := N) hs
  subst he
  exact .fx hx h0 (fun _ => rfl) id (fun hz => by rw [hf] at hz; cases hz) k
/-- One that leaves it as it is wherever it is drawn. -/
theorem DW.oneF {c : CI} (hp : Φ h) (hs : ∀ h2, Φ h2 → Stp c e h2 e' h2) (k : DW P N Φ ws fs K (j + 1) l e' h) : DW P N Φ ws fs K j (c :: l) e h := by
  have key : ∀ h2, Φ h2 → ∃ r, e' = putR c.d r e ∧ FX P N c e h2 r h2 ∧ (free0 c.i = true → h2 = h2 ∧ ∀ h3, FX P N c e h3 r h3) := fun h2 h3 => FX.of_stp (hs h2 h3)
  obtain ⟨r, he, hx, h0⟩ := key h hp
  subst he
  refine .fx hx h0 (fun _ => rfl) id (fun _ h2 h3 => ?_) k
  obtain ⟨r2, he2, hx2, _⟩ := key h2 h3
  have : FX P N c e h2 r h2 := by
    cases hd : c.d with
    | none =>
      intro ops i o ho hc e3 hs3 m w a KK QQ hr he hk
      exact hx2 ops i o ho hc e3 hs3 m w a KK QQ hr he (by rw [hd] at hk ⊢; exact hk)
    | some d =>
      rw [hd] at he2
      simp only [putR, List.cons.injEq, Prod.mk.injEq, true_and, and_true] at he2
      rw [he2]; exact hx2
  exact this
/-- One that turns the heap. -/
theorem DW.oneW {c : CI} (hw : ws.contains j = true) (hp : Φ h → Φ h') (hs : Stp c e h e' h') (hf : fs.contains j = false) (k : DW P N Φ ws fs K (j + 1) l e' h') : DW P N Φ ws fs K j (c :: l) e h := by
  obtain ⟨r, he, hx, h0⟩ := FX.of_stp (P := P) (N := N) hs
  subst he
  exact .fx hx h0 (fun hz => by rw [hw] at hz; cases hz) hp (fun hz => by rw [hf] at hz; cases hz) k
theorem DW.call {d : Option Nat} {f : Nat} {xs : List Opd} {g : Option (Nat × Bool)} {vs : List AV} {r : AV} (hv : evL e xs = some vs) (hg : met e g) (hf : fs.contains j = false) (hac : AE P f vs h r h) (k : DW P N Φ ws fs K (j + 1) l (putR d (some r) e) h) : DW P N Φ ws fs K j (⟨d, .call f xs, g⟩ :: l) e h :=
  .fx (FX.call hg hv hac) (fun hz => by simp [free0] at hz) (fun _ => rfl) id (fun hz => by rw [hf] at hz; cases hz) k
theorem DW.callF {d : Option Nat} {f : Nat} {xs : List Opd} {g : Option (Nat × Bool)} {vs : List AV} {r : AV} (hp : Φ h) (hv : evL e xs = some vs) (hg : met e g) (hac : ∀ h2, Φ h2 → AE P f vs h2 r h2) (k : DW P N Φ ws fs K (j + 1) l (putR d (some r) e) h) : DW P N Φ ws fs K j (⟨d, .call f xs, g⟩ :: l) e h :=
  .fx (FX.call hg hv (hac h hp)) (fun hz => by simp [free0] at hz) (fun _ => rfl) id (fun _ h2 h3 => FX.call hg hv (hac h2 h3)) k
theorem DW.callW {d : Option Nat} {f : Nat} {xs : List Opd} {g : Option (Nat × Bool)} {vs : List AV} {r : AV} (hv : evL e xs = some vs) (hg : met e g) (hf : fs.contains j = false) (hw : ws.contains j = true) (hp : Φ h → Φ h') (hac : AE P f vs h r h') (k : DW P N Φ ws fs K (j + 1) l (putR d (some r) e) h') : DW P N Φ ws fs K j (⟨d, .call f xs, g⟩ :: l) e h :=
  .fx (FX.call hg hv hac) (fun hz => by simp [free0] at hz) (fun hz => by rw [hw] at hz; cases hz) hp (fun hz => by rw [hf] at hz; cases hz) k
/-- A region in which nothing turns the heap. -/
theorem AW.draw {Q : Exit → Env → AHeap → Prop} {es : List (List Nat)} (hm : P.follows .mixedOrders = true) (hc : chkD l es [] [] = true) (hd : DW P N (fun _ => True) [] [] (fun e h => Q .normal e h) 0 l e h) : AW P N (.dreg l es) Q e h := AW.dreg hm hc trivial hd
/-- The next instruction, if it needs no thought. -/
theorem DW.go {c : CI} {e' : Env} (k : DW P N Φ ws fs K (j + 1) l e' h) (hs : Stp c e h e' h := by exact Stp.auto) (hf : fs.contains j = false := by exact rfl) : DW P N Φ ws fs K j (c :: l) e h := DW.one hs hf k
theorem DW.goW {c : CI} {e' : Env} {h' : AHeap} (k : DW P N Φ ws fs K (j + 1) l e' h') (hp : Φ h → Φ h') (hs : Stp c e h e' h' := by exact Stp.auto) (hf : fs.contains j = false := by exact rfl) (hw : ws.contains j = true := by exact rfl) : DW P N Φ ws fs K j (c :: l) e h := DW.oneW hw hp hs hf k
end
end Go.Abs
