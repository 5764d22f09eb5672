/- The abstract layer, part 35: appends under kept names; a row in a struct in memory that is written no more; halves of walks. -/
import Derived.Test.YtlddahcgaonlhaaA34
set_option linter.all false
namespace Go.Abs
open Go

section
variable {P : Program} {N : Nat} {e : Env} {h : AHeap} {m : Inj} {w : World} {nm : Nat}
theorem FX.appN {d : Nat} {sz bytes : Nat} {x y : Opd} {g : Option (Nat × Bool)} {v : AV} {c : List (List AV)} (hf : ¬ h.used nm) (hx : ev e x = some .nils) (hy : ev e y = some v) (hc : rdS h.get sz v = some c) (hb : c.length * bytes ≤ 140737488355328) (hg : met e g) :
    FX P N ⟨some d, .app sz bytes x y, g⟩ e h (some (.app nm 0 sz c)) (h.put nm (.tail 0 c.length)) :=
  FX.ofN (r := some (.app nm 0 sz c)) (f := .new (.tail 0 c.length)) rfl hg fun o hcc e2 hs m w a hr he => by
    have hx2 : ev e2 x = some .nils := (ev_congr fun s h => hs s (by simp [islots, h])).trans hx
    have hy2 : ev e2 y = some v := (ev_congr fun s h => hs s (by simp [islots, h])).trans hy
    exact evalI_ok hr hf he hcc (by simp only [evalI, hx2, hy2, hc]; exact req_pos hb)
variable {n0 : Nat} {al ws rs fs : List Nat} {K : Env → AHeap → Prop} {l : List CI} {j : Nat}
/-- In a drawn region: an append to nothing as a row that grows, under a kept name. -/
theorem DA.appA {d : Nat} {sz bytes : Nat} {x y : Opd} {g : Option (Nat × Bool)} {v : AV} {c : List (List AV)} {i n len : Nat} {W : List Nat} {h0 : AHeap} (hx : ev e x = some .nils) (hy : ev e y = some v) (hc : ∀ h2 : AHeap, rdS h2.get sz v = some c) (hb : c.length * bytes ≤ 140737488355328) (hi : al.idxOf j = i) (hl : c.length = len) (hg : met e g) (ha : al.contains j = true) (hr : rs.contains j = false) (hf : fs.contains j = false)
    (k : DA P N (PhiW n W h0) n al ws rs fs K (j + 1) l ((d, some (.app (n + i) 0 sz c)) :: e) (h.put (n + i) (.tail 0 len))) : DA P N (PhiW n W h0) n al ws rs fs K j (⟨some d, .app sz bytes x y, g⟩ :: l) e h := by
  subst hi hl
  exact .fx (r := some (.app (n + al.idxOf j) 0 sz c)) [.put (n + al.idxOf j) (.tail 0 c.length)] (fun hz => by rw [ha] at hz; cases hz) (fun hz => by simp [free0] at hz) (fun _ hz => by rw [ha] at hz; cases hz) (fun _ => ⟨_, rfl, fun h2 hu => FX.appN hu hx hy (hc h2) hb hg⟩) (fun hz => by rw [hr] at hz; cases hz)
    (fun hz => by rw [ha] at hz; cases hz) (fun h2 hp => PhiW.put (Nat.le_add_right _ _) hp) (fun hz => by rw [hf] at hz; cases hz) k

theorem next_le_keep {n k : Nat} (hn : n ≤ h.next + k) : n ≤ (h.keep k).next := hn
theorem RowF.one_cell2 {h1 : AHeap} {sz i j : Nat} {c : List (List AV)} {cells : List AV} {u v : AV} {F : Nat → Value} (st : Step m h w m h1 w) (hi : c[i]? = some cells) (hj : cells[j]? = some u) (hsc : v.scalar = true) (hv : ∀ cv, VR m h w u cv → VR m h1 w v cv) (hF : RowF m h w sz c F) :
    RowF m h1 w sz (c.set i (cells.set j v)) F := by
  obtain ⟨q1, q2, q3⟩ := hF
  have hlt : i < c.length := (List.getElem?_eq_some_iff.1 hi).1
  refine ⟨fun x hx => ?_, fun x hx y hy => ?_, fun k cs hk t y hy => ?_⟩
  · rcases List.mem_or_eq_of_mem_set hx with hx | rfl
    · exact q1 x hx
    · simpa using q1 cells (List.mem_of_getElem? hi)
  · rcases List.mem_or_eq_of_mem_set hx with hx | rfl
    · exact q2 x hx y hy
    · rcases List.mem_or_eq_of_mem_set hy with hy | rfl
      · exact q2 cells (List.mem_of_getElem? hi) y hy
      · exact hsc
  · rw [List.getElem?_set] at hk
    split at hk
    · rename_i e
      subst e
      have hk' : cells.set j v = cs := by simpa [hlt] using hk
      subst hk'
      rw [List.getElem?_set] at hy
      split at hy
      · rename_i e; subst e
        have hy' : v = y := by simpa [(List.getElem?_eq_some_iff.1 hj).1] using hy
        subst hy'
        exact hv _ (q3 i cells hi j u hj)
      · exact (q3 i cells hi t y hy).step st
    · exact (q3 k cs hk t y hy).step st
/-- A row that a cell in memory holds is written no more. -/
theorem Cvt.frzM {id r sz s n i j : Nat} {c cc : List (List AV)} {cells : List AV} (hg : h.get id = some (.mem sz c)) (hi : c[i]? = some cells) (hj : cells[j]? = some (.ref r 0 n)) (hr' : h.get r = some (.mem s cc)) (hl : cc.length = n) (hne : id ≠ r) :
    Cvt e h e ((h.set r none).set id (some (.mem sz (c.set i (cells.set j (.imm s cc)))))) := fun N m w a hr he => by
  obtain ⟨b, cc0, T, q1, q2, q3, q4⟩ := hr.obj _ _ hg
  have sd : Step m h w m (h.set r none) w := step_del r
  have hr1 := hr.del r
  have hg1 : (h.set r none).get id = some (.mem sz c) := by simp only [AHeap.set, if_neg hne]; exact hg
  have q5 : RowF m (h.set r none) w sz (c.set i (cells.set j (.imm s cc))) (fun k => cc0.getD k undef) := RowF.one_cell2 sd hi hj rfl (fun cv hv => by
    have := ref_imm hr hr' hv
    simpa [List.take_of_length_le (Nat.le_of_eq hl)] using this) q4
  have wu : WUpd w w b := ⟨rfl, rfl, rfl, rfl, fun _ _ => rfl, fun cc T fz h => ⟨cc, h, rfl⟩⟩
  have hcm : Compat (.mem sz c) (.mem sz (c.set i (cells.set j (.imm s cc)))) := ⟨rfl, by simp⟩
  have st := step_set hr1 hg1 q1 hcm wu
  exact ⟨m, hr1.set hg1 q1 hcm wu ⟨b, cc0, T, q1, q2, by simpa using q3, q5.step st⟩, (he.step sd).step st, sd.trans st⟩
/-- Where two ways meet. -/
theorem WL.cut {Q : Exit → Env → AHeap → Prop} {l : List CI} (I : Env → AHeap → Prop) (hI : I e h) (k : ∀ e h, I e h → WL P N l Q e h) : WL P N l Q e h := k e h hI
/-- The same between two codes, the first one begun. -/
theorem WW.mid {Q : Exit → Env → AHeap → Prop} {A : Env → AHeap → Prop} {c : CC} (I : Env → AHeap → Prop) (h1 : WW P N c (fun x e h => x = .normal ∧ I e h) e h) (h2 : ∀ e h, I e h → A e h) : WW P N c (thenQ A Q) e h :=
  ⟨h1.out.mono fun x e h hq => by
    obtain ⟨rfl, hi⟩ := hq
    exact thenN (h2 e h hi)⟩
/-- A call of a function value. -/
theorem FX.callv {h' : AHeap} {d : Option Nat} {f : Nat} {x : Opd} {xs : List Opd} {g : Option (Nat × Bool)} {us vs ts : List AV} {r : AV} (hx : ev e x = some (.func (.func f) us ts)) (hv : evL e xs = some vs) (hg : met e g) (hb : bodied P f = true) (hac : AE P f (us ++ vs ++ ts) h r h') : FX P N ⟨d, .callv x xs, g⟩ e h (some r) h' := by
  intro ops i o ho hc e2 hs m w a K Q hr he hk
  rcases compI_ok hc with ⟨hb1, hb2⟩ | ⟨hd, hdst, hcomp, hgd⟩
  · simp at hb1
  · obtain ⟨w1, w2⟩ := wanted_of he hgd
    have hi : ∀ s ∈ lslots xs, lk s e2 = lk s e := fun s h => hs s (by unfold cslots; split <;> simp [h, islots])
    have hi2 : ∀ s ∈ oslots x, lk s e2 = lk s e := fun s h => hs s (by unfold cslots; split <;> simp [h, islots])
    have hw : Region.wanted o (yielded ops a.tmps) = true := by
      cases g with
      | none => exact w1 rfl
      | some sb =>
        obtain ⟨s, b⟩ := sb
        have hl : lk s e2 = some (.bool b) := (hs s (by simp [cslots])).trans hg
        rw [w2 s b b rfl hl]; simp
    simp only [wpOp, ho]
    rw [if_pos hw]
    left
    have hco := hcomp rfl
    obtain ⟨c, y, hop, hcal, hy, hxs⟩ := compile_callv hco
    obtain ⟨hl1, hl2⟩ := he.evalL hxs ((evL_congr hi).trans hv)
    have hfv := he.eval hy ((ev_congr hi2).trans hx)
    generalize hcx : a.eval (.tmp y) = cx at hfv
    cases hfv with
    | func _ _ _ cs ds q1 q2 q3 q4 =>
      have hrun : (execOp a.eval o).run P w = .ok (.enter f (cs ++ c.args.map a.eval ++ ds)) w := by
        simp [execOp, hop, resolve, hcal, hcx, Deferred.ofValue, invoke, run_callFunc hb]
      refine call_wp hrun hr (by simp [q1, q2, hl1]) (fun j v hj => ?_) hac fun v w' m' r1 h1 g1 g2 g3 ⟨g4, g5⟩ => ?_
      · rw [List.append_assoc] at hj
        simp only [Array.getD_eq_getD_getElem?]
        by_cases j1 : j < us.length
        · rw [List.getElem?_append_left j1] at hj
          have := q3 j v hj
          rw [Array.append_assoc, Array.getElem?_append_left (by omega)]
          simpa [Array.getD_eq_getD_getElem?] using this
        · rw [List.getElem?_append_right (by omega)] at hj
          rw [Array.append_assoc, Array.getElem?_append_right (by omega), ← q1]
          by_cases j2 : j - us.length < vs.length
          · rw [List.getElem?_append_left j2] at hj
            have := hl2 _ v hj
            rw [Array.getElem?_append_left (by simp at hl1 ⊢; omega)]
            simpa [List.getD_eq_getElem?_getD] using this
          · rw [List.getElem?_append_right (by omega)] at hj
            have := q4 _ v hj
            have hl1' : vs.length = c.args.size := by simpa using hl1
            rw [Array.getElem?_append_right (by simp; omega)]
            simpa [Array.getD_eq_getD_getElem?, hl1'] using this
      · subst g4; subst g5
        refine hk m' w' _ g1 ?_ g3
        have hd' : d = o.dst := hd
        show ER N m' h1 w' (putR d (some r1) e2) _
        rw [hd']
        exact (he.step g3).putR hdst g2
end
end Go.Abs
