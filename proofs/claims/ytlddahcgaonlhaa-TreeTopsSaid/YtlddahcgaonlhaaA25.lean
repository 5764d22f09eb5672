/- The abstract layer, part 25: what is known, told in other ways: rows that grow out of rows that were written, rows in memory; calls whose arguments are known better than the contract asks; ends of functions that write. -/
import Derived.Test.YtlddahcgaonlhaaA24
set_option linter.all false
namespace Go.Abs
open Go

section
variable {P : Program} {N : Nat} {e e' : Env} {h h' : AHeap} {l : List CI} {Q : Exit → Env → AHeap → Prop}

/-! ### values told with less -/
def SubV (u v : AV) : Prop := ∀ (m : Inj) (h : AHeap) (w : World) (c : Value), VR m h w u c → VR m h w v c
theorem SubV.refl (u : AV) : SubV u u := fun _ _ _ _ hv => hv
theorem SubV.nil {sz : Nat} : SubV .nils (.imm sz []) := fun m h w c hv => by
  cases hv with
  | nils0 => exact .imm0 _
  | nils1 a => exact .imm1 _ _ _
theorem SubV.app {id g sz : Nat} {c : List (List AV)} : SubV (.app id g sz c) (.imm sz c) := fun m h w cv hv => by
  cases hv with
  | app0 => exact .imm0 _
  | app1 => exact .imm1 _ _ _
  | app _ _ _ _ b cap F hu hic hl hsc hrr hcap ht => exact .imm _ _ _ _ _ F hic hl hsc hrr hcap
inductive SubL : List AV → List AV → Prop
  | nil : SubL [] []
  | cons {u v : AV} {us vs : List AV} (h1 : SubV u v) (h2 : SubL us vs) : SubL (u :: us) (v :: vs)
theorem SubL.len {us vs : List AV} (hs : SubL us vs) : us.length = vs.length := by
  induction hs with
  | nil => rfl
  | cons _ _ ih => simp [ih]
theorem SubL.get {us vs : List AV} (hs : SubL us vs) : ∀ (i : Nat) (u v : AV), us[i]? = some u → vs[i]? = some v → SubV u v := by
  induction hs with
  | nil => intro i u v hu; simp at hu
  | cons h1 _ ih =>
    intro i u v hu hv
    cases i with
    | zero => cases hu; cases hv; exact h1
    | succ i => exact ih i u v (by simpa using hu) (by simpa using hv)
theorem SubV.agg {us vs : List AV} (hs : SubL us vs) (hsc : ∀ v ∈ vs, AV.scalar v = true) : SubV (.agg us) (.agg vs) := fun m h w c hv => by
  cases hv with
  | agg _ cs q1 q2 q3 =>
    refine .agg _ _ (by rw [← hs.len]; exact q1) hsc fun i v hi => ?_
    have hlt : i < us.length := by rw [hs.len]; exact (List.getElem?_eq_some_iff.1 hi).1
    exact hs.get i _ v (List.getElem?_eq_getElem hlt) hi _ _ _ _ (q3 i _ (List.getElem?_eq_getElem hlt))
theorem AC.sub {f : Nat} {us vs : List AV} {R : AV → AHeap → Prop} (hs : SubL us vs) (hac : AC P f vs h R) : AC P f us h R := fun m w cargs hr hl hv =>
  hac m w cargs hr (by rw [← hs.len]; exact hl) fun i v hi => by
    have hlt : i < us.length := by rw [hs.len]; exact (List.getElem?_eq_some_iff.1 hi).1
    exact hs.get i _ v (List.getElem?_eq_getElem hlt) hi _ _ _ _ (hv i _ (List.getElem?_eq_getElem hlt))
theorem AE.sub {f : Nat} {us vs : List AV} {r : AV} (hs : SubL us vs) (hac : AE P f vs h r h') : AE P f us h r h' := AC.sub hs hac
/-- A slot told with less. -/
theorem Cvt.sub1 {s : Nat} {u v : AV} (hs : lk s e = some u) (hv : SubV u v) : Cvt e h ((s, some v) :: e) h :=
  Cvt.put fun _ m w a hr he => hv _ _ _ _ (he.val s u hs)

/-! ### a row that was written, from here one that grows -/
theorem ref_app {m : Inj} {w : World} {id n sz nm : Nat} {c : List (List AV)} (hr : HR m h w) (hf : ¬ h.used nm) (hg : h.get id = some (.mem sz c)) {v : Value} (hv : VR m h w (.ref id 0 n) v) :
    ∃ m', HR m' ((h.set id none).put nm (.tail 0 n)) w ∧ Step m h w m' ((h.set id none).put nm (.tail 0 n)) w ∧ VR m' ((h.set id none).put nm (.tail 0 n)) w (.app nm 0 sz (c.take n)) v := by
  have hrd := hr.del id
  have sd : Step m h w m (h.set id none) w := step_del id
  have hfd : ¬ (h.set id none).used nm := hf
  cases hv with
  | ref _ _ _ cap a hu hc ha =>
    obtain ⟨b, hb, hle, had, cc, T, hcc, hsz⟩ := ha _ _ hg
    obtain ⟨b', cc', T', q1, q2, q3, q4⟩ := hr.obj _ _ hg
    rw [hb] at q1; cases q1
    rw [q2] at hcc; cases hcc
    have hlen : (c.take n).length = n := by simp; omega
    have hne : id ≠ nm := used_ne hf hu
    -- the token's place
    have key : ∀ p : Option (Nat × Nat), (∀ x, p = some x → x = (b, n * sz)) → HR (upd m nm p) ((h.set id none).put nm (.tail 0 n)) w ∧ Step m h w (upd m nm p) ((h.set id none).put nm (.tail 0 n)) w := by
      intro p hp
      have sub : ∀ j y, j ≠ nm → ((h.set id none).put nm (.tail 0 n)).get j = some y → h.get j = some y ∧ j ≠ id := fun j y hj hgj => by
        simp only [AHeap.put, if_neg hj, AHeap.set] at hgj
        by_cases e : j = id
        · simp [e] at hgj
        · rw [if_neg e] at hgj; exact ⟨hgj, e⟩
      have st : Step m h w (upd m nm p) ((h.set id none).put nm (.tail 0 n)) w := {
        os := rfl
        tape := rfl
        output := rfl
        size := Nat.le_refl _
        kind := fun k cc T fz hb _ => ⟨cc, hb, rfl⟩
        free := fun k hk hfr => ⟨rfl, fun j s y hgj hmj => by
          by_cases e : j = nm
          · subst e
            simp only [upd, if_true] at hmj
            cases hp _ hmj
            exact hfr id 0 _ hg hb
          · simp only [upd, if_neg e] at hmj; exact hfr j s y (sub j y e hgj).1 hmj⟩
        cell := fun k o v hcell hn => ⟨hcell, fun ⟨j, s, ⟨y, hgj⟩, hmj, hle⟩ => by
          by_cases e : j = nm
          · subst e
            simp only [upd, if_true] at hmj
            cases hp _ hmj
            exact hn ⟨id, 0, ⟨_, hg⟩, hb, Nat.zero_le _⟩
          · simp only [upd, if_neg e] at hmj; exact hn ⟨j, s, ⟨y, (sub j y e hgj).1⟩, hmj, hle⟩⟩
        used := fun _ hu => put_used (h := h.set id none) hu
        live := fun j x' huj hgj => by
          have e : j ≠ nm := used_ne hf huj
          exact ⟨x', (sub j x' e hgj).1, fun _ => by simp [upd, e], Compat.refl _⟩ }
      refine ⟨⟨hrd.put_gapl, hrd.put_live, fun i j y z b2 s r hi hj hmi hmj => ?_, fun j y hgj => ?_⟩, st⟩
      · by_cases ei : i = nm <;> by_cases ej : j = nm
        · rw [ei, ej]
        · subst ei
          simp only [upd, if_true] at hmi
          simp only [upd, if_neg ej] at hmj
          cases hp _ hmi
          exact absurd (hr.inj j id z _ b r 0 (sub j z ej hj).1 hg hmj hb) (sub j z ej hj).2
        · subst ej
          simp only [upd, if_true] at hmj
          simp only [upd, if_neg ei] at hmi
          cases hp _ hmj
          exact absurd (hr.inj i id y _ b s 0 (sub i y ei hi).1 hg hmi hb) (sub i y ei hi).2
        · simp only [upd, if_neg ei, if_neg ej] at hmi hmj
          exact hr.inj i j y z b2 s r (sub i y ei hi).1 (sub j z ej hj).1 hmi hmj
      · by_cases e : j = nm
        · subst e
          simp only [AHeap.put, if_true] at hgj
          cases hgj
          intro b2 s hmc
          simp only [upd, if_true] at hmc
          cases hp _ hmc
          exact ⟨cc, T, q2⟩
        · exact (hr.obj j y (sub j y e hgj).1).step st (by simp [upd, e]) fun _ _ _ => rfl
    rcases Nat.eq_zero_or_pos cap with hc0 | hc0
    · subst hc0
      obtain rfl : n = 0 := by omega
      obtain ⟨k1, k2⟩ := key none (by simp)
      refine ⟨_, k1, k2, ?_⟩
      simp only [List.take_zero]
      exact .app1 _ _ _ _ put_used_nm (tok_new (by simp [upd]))
    · rcases had with h00 | rfl
      · omega
      · obtain ⟨k1, k2⟩ := key (some (b, n * sz)) (by rintro x hx; cases hx; rfl)
        refine ⟨_, k1, k2, ?_⟩
        have hrow := (q4.take n)
        have hmul : n * sz ≤ c.length * sz := Nat.mul_le_mul_right _ (by omega)
        have := VR.app (m := upd m nm (some (b, n * sz))) (h := (h.set id none).put nm (.tail 0 n)) (w := w) nm 0 sz (c.take n) b cap (fun k => cc.getD k undef) put_used_nm (fun k hk => ⟨?_, ?_⟩) hrow.1 hrow.2.1 (fun i cells hi j v hj => (hrow.2.2 i cells hi j v hj).step k2) (by omega)
          (by rw [hlen]; exact tok_new ⟨by simp [upd], cc, T, q2, by rw [Nat.zero_add] at hsz; exact hsz⟩)
        · rw [hlen] at this
          simpa using this
        · rw [hlen] at hk
          rw [Nat.zero_add, cell_of_row w b _ cc T (0, 0) q2]
          simp [Array.getD_eq_getD_getElem?, show k < cc.size by omega]
        · rw [hlen] at hk
          rintro ⟨j, t, ⟨x, hx⟩, hm, hle2⟩
          by_cases e : j = nm
          · subst e; simp only [upd, if_true] at hm; cases hm; omega
          · simp only [upd, if_neg e] at hm
            simp only [AHeap.put, if_neg e, AHeap.set] at hx
            by_cases e2 : j = id
            · simp [e2] at hx
            · rw [if_neg e2] at hx
              exact e2 (hr.inj j id x _ b t 0 hx hg hm hb)
/-- A slot's row, from here one that grows. -/
theorem Cvt.grow {s id n sz nx : Nat} {c c' : List (List AV)} (hs : lk s e = some (.ref id 0 n)) (hg : h.get id = some (.mem sz c)) (hc : c.take n = c') (hn : h.next = nx) : Cvt e h ((s, some (.app nx 0 sz c')) :: e) ((h.set id none).put nx (.tail 0 n)) := fun N m w a hr he => by
  subst hn hc
  obtain ⟨m', k1, k2, k3⟩ := ref_app hr (next_fresh hr) hg (he.val s _ hs)
  refine ⟨m', k1, ?_, k2⟩
  have he' := he.step k2
  refine ⟨he'.size, he'.defers, fun i v hi => ?_⟩
  simp only [lk_cons, lk_nil] at hi
  split at hi
  · rename_i e1; subst e1; cases hi; exact k3
  · exact he'.val i v hi

/-! ### cells in memory, told in another way -/
theorem HR.retell {m : Inj} {w : World} (hr : HR m h w) {id sz : Nat} {c c' : List (List AV)} (hg : h.get id = some (.mem sz c)) (hl : c'.length = c.length)
    (hrow : ∀ F, RowF m h w sz c F → RowF m h w sz c' F) : HR m (h.set id (some (.mem sz c'))) w ∧ Step m h w m (h.set id (some (.mem sz c'))) w := by
  obtain ⟨b, cc, T, q1, q2, q3, q4⟩ := hr.obj _ _ hg
  have wu : WUpd w w b := ⟨rfl, rfl, rfl, rfl, fun _ _ => rfl, fun cc T fz h => ⟨cc, h, rfl⟩⟩
  have hcm : Compat (.mem sz c) (.mem sz c') := ⟨rfl, by omega⟩
  have st := step_set hr hg q1 hcm wu
  exact ⟨hr.set hg q1 hcm wu ⟨b, cc, T, q1, q2, by rw [hl]; exact q3, (hrow _ q4).step st⟩, st⟩
theorem RowF.one_cell {m : Inj} {w : World} {sz i j : Nat} {c : List (List AV)} {cells : List AV} {u v : AV} (hi : c[i]? = some cells) (hj : cells[j]? = some u) (hsc : v.scalar = true) (hv : ∀ cv, VR m h w u cv → VR m h w v cv) :
    ∀ F, RowF m h w sz c F → RowF m h w sz (c.set i (cells.set j v)) F := by
  intro F ⟨q1, q2, q3⟩
  have hlt : i < c.length := (List.getElem?_eq_some_iff.1 hi).1
  refine ⟨fun x hx => ?_, fun x hx y hy => ?_, fun k cs hk t y hy => ?_⟩
  · rcases List.mem_or_eq_of_mem_set hx with hx | rfl
    · exact q1 x hx
    · simpa using q1 cells (List.mem_of_getElem? hi)
  · rcases List.mem_or_eq_of_mem_set hx with hx | rfl
    · exact q2 x hx y hy
    · rcases List.mem_or_eq_of_mem_set hy with hy | rfl
      · exact q2 cells (List.mem_of_getElem? hi) y hy
      · exact hsc
  · rw [List.getElem?_set] at hk
    split at hk
    · rename_i e
      subst e
      have hk' : cells.set j v = cs := by simpa [hlt] using hk
      subst hk'
      rw [List.getElem?_set] at hy
      split at hy
      · rename_i e; subst e
        have hy' : v = y := by simpa [(List.getElem?_eq_some_iff.1 hj).1] using hy
        subst hy'
        exact hv _ (q3 i cells hi j u hj)
      · exact q3 i cells hi t y hy
    · exact q3 k cs hk t y hy
/-- A cell in memory is told with less. -/
theorem Cvt.cell {id sz i j : Nat} {c : List (List AV)} {cells : List AV} {u v : AV} (hg : h.get id = some (.mem sz c)) (hi : c[i]? = some cells) (hj : cells[j]? = some u) (hsc : v.scalar = true) (hv : SubV u v) :
    Cvt e h e (h.set id (some (.mem sz (c.set i (cells.set j v))))) := fun N m w a hr he => by
  obtain ⟨k1, k2⟩ := hr.retell (c' := c.set i (cells.set j v)) hg (by simp) (RowF.one_cell hi hj hsc fun cv => hv _ _ _ _)
  exact ⟨m, k1, he.step k2, k2⟩
theorem vr_adopt {m : Inj} {w : World} {id g sz : Nat} {cv : Value} (hu : h.used id) (ht : TokC h id g 0 (m id = none)) (hv : VR m h w .nils cv) : VR m h w (.app id g sz []) cv := by
  cases hv with
  | nils0 => exact .app0 _ _ _ hu ht
  | nils1 a => exact .app1 _ _ _ _ hu ht
/-- An empty cell in memory, from here a row that grows, by a new token. -/
theorem Cvt.adoptM {id sz i j nx : Nat} {c : List (List AV)} {cells : List AV} (s : Nat) (hg : h.get id = some (.mem sz c)) (hi : c[i]? = some cells) (hj : cells[j]? = some .nils) (hn : h.next = nx) :
    Cvt e h e ((h.put nx (.tail 0 0)).set id (some (.mem sz (c.set i (cells.set j (.app nx 0 s [])))))) := fun N m w a hr he => by
  subst hn
  have hf := next_fresh hr
  have st := step_putv hr hf
  have hr1 := hr.putv hf
  have hne : id ≠ h.next := used_ne hf (hr.live _ _ hg)
  have hg1 : (h.put h.next (.tail 0 0)).get id = some (.mem sz c) := by simp only [AHeap.put, if_neg hne]; exact hg
  obtain ⟨k1, k2⟩ := hr1.retell (c' := c.set i (cells.set j (.app h.next 0 s []))) hg1 (by simp) (RowF.one_cell hi hj rfl fun cv => vr_adopt put_used_nm (tok_new (by simp [upd])))
  exact ⟨_, k1, (he.step st).step k2, st.trans k2⟩
/-- The same by a token that is there: it begins anew. -/
theorem Cvt.anewM {id sz i j t g n : Nat} {c : List (List AV)} {cells : List AV} (s : Nat) (ht : h.get t = some (.tail g n)) (hg : h.get id = some (.mem sz c)) (hi : c[i]? = some cells) (hj : cells[j]? = some .nils) :
    Cvt e h e ((h.set t (some (.tail (g + 1) 0))).set id (some (.mem sz (c.set i (cells.set j (.app t (g + 1) s [])))))) := fun N m w a hr he => by
  have st := step_anew (n' := 0) hr ht (Nat.lt_succ_self g)
  have hr1 := hr.anew (n' := 0) ht (Nat.lt_succ_self g)
  have hne : id ≠ t := fun e => by subst e; rw [hg] at ht; cases ht
  have hg1 : (h.set t (some (.tail (g + 1) 0))).get id = some (.mem sz c) := by simp only [AHeap.set, if_neg hne]; exact hg
  obtain ⟨k1, k2⟩ := hr1.retell (c' := c.set i (cells.set j (.app t (g + 1) s []))) hg1 (by simp) (RowF.one_cell hi hj rfl fun cv => vr_adopt (hr1.live t _ get_set_same) (tok_set (by simp [upd])))
  exact ⟨_, k1, (he.step st).step k2, st.trans k2⟩
end
end Go.Abs
