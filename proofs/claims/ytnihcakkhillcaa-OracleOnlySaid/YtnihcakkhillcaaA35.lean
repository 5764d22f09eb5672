/- The abstract layer, part 35: appends under kept names; a row in a struct in memory that is written no more; halves of walks. -/
import Derived.Test.YtnihcakkhillcaaA34
namespace Go.Abs
open Go

section
variable {P : Program} {N : Nat} {e : Env} {h : AHeap} {m : Inj} {w : World} {nm : Nat}
theorem FX.appN {d : Nat} {sz bytes : Nat} {x y : Opd} {g : Option (Nat × Bool)} {v : AV} {c : List (List AV)} (hf : ¬ h.used nm) (hx : ev e x = some .nils) (hy : ev e y = some v) (hc : rdS h.get sz v = some c) (hb : c.length * bytes ≤ 140737488355328) (hg : met e g) :
    FX P N ⟨some d, .app sz bytes x y, g⟩ e h (some (.app nm 0 sz c)) (h.put nm (.tail 0 c.length)) :=
  FX.ofN (r := some (.app nm 0 sz c)) (f := .new (.tail 0 c.length)) rfl hg fun o hcc e2 hs m w a hr he => by
    have hx2 : ev e2 x = some .nils := (ev_congr fun s h => hs s (by simp [islots, h])).trans hx
    have hy2 : ev e2 y = some v := (ev_congr fun s h => hs s (by simp [islots, h])).trans hy
    exact evalI_ok hr hf he hcc (by simp only [evalI, hx2, hy2, hc]; exact req_pos hb)
variable {n0 : Nat} {al ws rs fs : List Nat} {K : Env → AHeap → Prop} {l : List CI} {j : Nat}
/-- In a drawn region: an append to nothing as a row that grows, under a kept name. -/
theorem DA.appA {d : Nat} {sz bytes : Nat} {x y : Opd} {g : Option (Nat × Bool)} {v : AV} {c : List (List AV)} {i n len : Nat} {W : List Nat} {h0 : AHeap} (hx : ev e x = some .nils) (hy : ev e y = some v) (hc : ∀ h2 : AHeap, rdS h2.get sz v = some c) (hb : c.length * bytes ≤ 140737488355328) (hi : al.idxOf j = i) (hl : c.length = len) (hg : met e g) (ha : al.contains j = true) (hr : rs.contains j = false) (hf : fs.contains j = false)
    (k : DA P N (PhiW n W h0) n al ws rs fs K (j + 1) l ((d, some (.app (n + i) 0 sz c)) :: e) (h.put (n + i) (.tail 0 len))) : DA P N (PhiW n W h0) n al ws rs fs K j (⟨some d, .app sz bytes x y, g⟩ :: l) e h := by
  subst hi hl
  exact .fx (r := some (.app (n + al.idxOf j) 0 sz c)) [.put (n + al.idxOf j) (.tail 0 c.length)] (fun hz => by rw [ha] at hz; cases hz) (fun hz => by simp [free0] at hz) (fun _ hz => by rw [ha] at hz; cases hz) (fun _ => ⟨_, rfl, fun h2 hu => FX.appN hu hx hy (hc h2) hb hg⟩) (fun hz => by rw [hr] at hz; cases hz)
    (fun hz => by rw [ha] at hz; cases hz) (fun h2 hp => PhiW.put (Nat.le_add_right _ _) hp) (fun hz => by rw [hf] at hz; cases hz) k

theorem next_le_keep {n k : Nat} (hn : n ≤ h.next + k) : n ≤ (h.keep k).next := hn
theorem RowF.one_cell2 {h1 : AHeap} {sz i j : Nat} {c : List (List AV)} {cells : List AV} {u v : AV} {F : Nat → Value} (st : Step m h w m h1 w) (hi : c[i]? = some cells) (hj : cells[j]? = some u) (hsc : v.scalar = true) (hv : ∀ cv, VR m h w u cv → VR m h1 w v cv) (hF : RowF m h w sz c F) :
    RowF m h1 w sz (c.set i (cells.set j v)) F := by
  obtain ⟨q1, q2, q3⟩ := hF
  have hlt : i < c.length := (List.getElem?_eq_some_iff.1 hi).1
  refine ⟨fun x hx => ?_, fun x hx y hy => ?_, fun k cs hk t y hy => ?_⟩
  · rcases List.mem_or_eq_of_mem_set hx with hx | rfl
    · exact q1 x hx
    · simpa using q1 cells (List.mem_of_getElem? hi)
  · rcases List.mem_or_eq_of_mem_set hx with hx | rfl
    · exact q2 x hx y hy
    · rcases List.mem_or_eq_of_mem_set hy with hy | rfl
      · exact q2 cells (List.mem_of_getElem? hi) y hy
      · exact hsc
  · rw [List.getElem?_set] at hk
    split at hk
    · rename_i e
      subst e
      have hk' : cells.set j v = cs := by simpa [hlt] using hk
      subst hk'
      rw [List.getElem?_set] at hy
      split at hy
      · rename_i e; subst e
        have hy' : v = y := by simpa [(List.getElem?_eq_some_iff.1 hj).1] using hy
        subst hy'
        exact hv _ (q3 i cells hi j u hj)
      · exact (q3 i cells hi t y hy).step st
    · exact (q3 k cs hk t y hy).step st
/-- A row that a cell in memory holds is written no more. -/
theorem Cvt.frzM {id r sz s n i j : Nat} {c cc : List (List AV)} {cells : List AV} (hg : h.get id = some (.mem sz c)) (hi : c[i]? = some cells) (hj : cells[j]? = some (.ref r 0 n)) (hr' : h.get r = some (.mem s cc)) (hl : cc.length = n) (hne : id ≠ r) :
    Cvt e h e ((h.set r none).set id (some (.mem sz (c.set i (cells.set j (.imm s cc)))))) := fun N m w a hr he => by
  obtain ⟨b, cc0, T, q1, q2, q3, q4⟩ := hr.obj _ _ hg
  have sd : Step m h w m (h.set r none) w := step_del r
  have hr1 := hr.del r
  have hg1 : (h.set r none).get id = some (.mem sz c) := by simp only [AHeap.set, if_neg hne]; exact hg
  have q5 : RowF m (h.set r none) w sz (c.set i (cells.set j (.imm s cc))) (fun k => cc0.getD k undef) := RowF.one_cell2 sd hi hj rfl (fun cv hv => by
    have := ref_imm hr hr' hv
    simpa [List.take_of_length_le (Nat.le_of_eq hl)] using this) q4
  have wu : WUpd w w b := ⟨rfl, rfl, rfl, rfl, fun _ _ => rfl, fun cc T fz h => ⟨cc, h, rfl⟩⟩
  have hcm : Compat (.mem sz c) (.mem sz (c.set i (cells.set j (.imm s cc)))) := ⟨rfl, by simp⟩
  have st := step_set hr1 hg1 q1 hcm wu
  exact ⟨m, hr1.set hg1 q1 hcm wu ⟨b, cc0, T, q1, q2, by simpa using q3, q5.step st⟩, (he.step sd).step st, sd.trans st⟩
/-- Where two ways meet. -/
theorem WL.cut {Q : Exit → Env → AHeap → Prop} {l : List CI} (I : Env → AHeap → Prop) (hI : I e h) (k : ∀ e h, I e h → WL P N l Q e h) : WL P N l Q e h := k e h hI
/-- The same between two codes, the first one begun. -/
theorem WW.mid {Q : Exit → Env → AHeap → Prop} {A : Env → AHeap → Prop} {c : CC} (I : Env → AHeap → Prop) (h1 : WW P N c (fun x e h => x = .normal ∧ I e h) e h) (h2 : ∀ e h, I e h → A e h) : WW P N c (thenQ A Q) e h :=
  ⟨h1.out.mono fun x e h hq => by
    obtain ⟨rfl, hi⟩ := hq
    exact thenN (h2 e h hi)⟩

/-! ### what hangs on something that was passed over is passed over -/
structure WS (P : Program) (N : Nat) (S : List Nat) (l : List CI) (Q : Exit → Env → AHeap → Prop) (e : Env) (h : AHeap) : Prop where
  out : ∀ (ops : Array Oper) (idx : List Nat), (∀ i ∈ idx, i < ops.size) → idx.map (fun i => compI P N ops (ops.getD i default)) = l → ∀ m w a, HR m h w → ER N m h w e a → (∀ s ∈ S, a.tmps.getD s undef = undef) → wpOps P ops (PA N Q m h w) idx a w
section
variable {Q : Exit → Env → AHeap → Prop} {S : List Nat}
theorem WS.off (k : WL P N l Q e h) : WS P N S l Q e h := ⟨fun ops idx hlt hl m w a hr he _ => k.out ops idx hlt hl m w a hr he⟩
theorem put_undef {a : Go.Act} {d s : Nat} (hs : s = d ∨ a.tmps.getD s undef = undef) : (a.put (some d) undef).tmps.getD s undef = undef := by
  simp only [Act.put, Array.getD_eq_getD_getElem?] at hs ⊢
  rw [Array.getElem?_setIfInBounds]
  split
  · split
    · rfl
    · rfl
  · rename_i hne
    rcases hs with rfl | hs
    · exact absurd rfl hne
    · exact hs
theorem WS.skip {d s : Nat} {i : Ins} {b : Bool} (hsk : S.contains s = true ∨ ∃ t, lk s e = some (.bool t) ∧ (!b) = t) (k : WS P N (d :: S) l Q ((d, none) :: e) h) : WS P N S (⟨some d, i, some (s, b)⟩ :: l) Q e h := ⟨fun ops idx hlt hl m w a hr he hS => by
  cases idx with
  | nil => simp at hl
  | cons j idx =>
    simp only [List.map_cons, List.cons.injEq] at hl
    obtain ⟨hc, hl⟩ := hl
    have hilt := hlt j (by simp)
    have ho : ops[j]? = some ops[j] := Array.getElem?_eq_getElem hilt
    have hget : ops.getD j default = ops[j] := by simp [hilt]
    rw [hget] at hc
    have hlt' : ∀ j ∈ idx, j < ops.size := fun j hj => hlt j (by simp [hj])
    rcases compI_ok hc with ⟨hb1, hb2⟩ | ⟨hd, hdst, hcomp, hg⟩
    · cases hb2
    · have hw : Region.wanted ops[j] (yielded ops a.tmps) = false := by
        rcases hsk with hsk | ⟨t, h1, h2⟩
        · cases hgo : ops[j].guard with
          | none => simp only [hgo] at hg; cases hg
          | some jb =>
            obtain ⟨j0, b0⟩ := jb
            simp only [hgo] at hg
            obtain ⟨s0, hs0, hg0⟩ := hg
            cases hg0
            have hu := hS s (by simpa using hsk)
            have hy : yielded ops a.tmps j0 = none := by
              unfold yielded
              rw [hs0]
              simp only [Option.bind_some]
              cases hx : a.tmps[s]? with
              | none => rfl
              | some x => simp [hx] at hu; subst hu; rfl
            simp only [Region.wanted, hgo, hy]
            cases b <;> rfl
        · obtain ⟨w1, w2⟩ := wanted_of he hg
          rw [w2 s b t rfl h1]; subst h2; cases b <;> rfl
      have hd' : (some d : Option Nat) = ops[j].dst := hd
      simp only [wpOps, ho]
      rw [hw]
      simp only [Bool.false_eq_true, if_false]
      rw [← hd']
      refine k.out ops idx hlt' hl m w _ hr (he.skip d undef) fun s' hs' => ?_
      refine put_undef ?_
      rcases List.mem_cons.1 hs' with rfl | hs'
      · exact .inl rfl
      · exact .inr (hS s' hs')⟩
theorem WS.dead {d s : Nat} {i : Ins} {b : Bool} (hs : S.contains s = true) (k : WS P N (d :: S) l Q ((d, none) :: e) h) : WS P N S (⟨some d, i, some (s, b)⟩ :: l) Q e h := .skip (.inl hs) k
theorem WS.unmet {d s : Nat} {i : Ins} {b t : Bool} (h1 : lk s e = some (.bool t)) (h2 : (!b) = t) (k : WS P N (d :: S) l Q ((d, none) :: e) h) : WS P N S (⟨some d, i, some (s, b)⟩ :: l) Q e h := .skip (.inr ⟨t, h1, h2⟩) k
theorem WL.unS {d s : Nat} {i : Ins} {b t : Bool} (h1 : lk s e = some (.bool t)) (h2 : (!b) = t) (k : WS P N [d] l Q ((d, none) :: e) h) : WL P N (⟨some d, i, some (s, b)⟩ :: l) Q e h :=
  ⟨fun ops idx hlt hl m w a hr he => (WS.unmet (S := []) h1 h2 k).out ops idx hlt hl m w a hr he (by simp)⟩
end
end
end Go.Abs
