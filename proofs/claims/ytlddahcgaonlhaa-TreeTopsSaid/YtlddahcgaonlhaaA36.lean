/- The abstract layer, part 36: made rows that are never written; calls that make new objects beside kept names. -/
import Derived.Test.YtlddahcgaonlhaaA35
set_option linter.all false
namespace Go.Abs
open Go

section
variable {P : Program} {N : Nat} {e : Env} {h h' : AHeap} {m : Inj} {w : World} {Q : Exit → Env → AHeap → Prop} {l : List CI}
theorem cx_mksl {o : Oper} {sz bytes : Nat} {z : List AV} {x y : Opd} (hc : compileOp P N o = some (.mksl sz z bytes x y)) : ∃ t el i zv lx cx, o.op = .makeSlice t lx cx ∧ P.underlying t = some (.slice el) ∧ P.info? el = some i ∧ i.zero = some zv ∧ ofL ofV zv.cells.toList = some z ∧
    0 < i.bytes ∧ 0 < i.size ∧ zv.cells.size = i.size ∧ ofOpd N lx = some x ∧ ofOpd N cx = some y ∧ sz = i.size ∧ bytes = i.bytes := by
  cases hop : o.op <;> simp only [compileOp, hop] at hc <;> try (cases hc; done)
  case makeSlice t lx cx =>
    repeat' split at hc
    all_goals first
      | (cases hc; done)
      | (rename_i hcond; cases hc; exact ⟨_, _, _, _, _, _, rfl, ‹_›, ‹_›, ‹_›, ‹_›, hcond.1, hcond.2.1, hcond.2.2, ‹_›, ‹_›, rfl, rfl⟩)
      | contradiction
  all_goals
    (repeat' split at hc
     all_goals first
       | (cases hc; done)
       | (rw [Option.map_eq_some_iff] at hc; obtain ⟨_, _, h⟩ := hc; cases h; done)
       | contradiction)
/-- The heap under a name of its own, within a region. -/
theorem WL.named (p : AHeap → Prop) (hp : p h) (k : ∀ h5, p h5 → WL P N l Q e h5) : WL P N l Q e h := k h hp
/-- A made row that is never written. -/
theorem FX.mkslI {d : Option Nat} {sz bytes n : Nat} {z : List AV} {x y : Opd} {k k' : IntKind} {a b : Int} {g : Option (Nat × Bool)} (hx : ev e x = some (.int k a)) (hy : ev e y = some (.int k' b)) (ha : a = n) (hb : b = n) (hm : n * bytes ≤ 140737488355328) (hg : met e g) :
    FX P N ⟨d, .mksl sz z bytes x y, g⟩ e h (some (.imm sz (List.replicate n z))) h := by
  subst ha hb
  refine FX.of (f := .none) rfl hg fun o ho e2 hs m w a hr he => ?_
  obtain ⟨t, el, i, zv, lx, cx, hop, hu, hi, hz, hzs, hbb, hsz, hzz, h1, h2, rfl, rfl⟩ := cx_mksl ho
  have hx2 : ev e2 x = some (.int k n) := (ev_congr fun s h => hs s (by simp [islots, h])).trans hx
  have hy2 : ev e2 y = some (.int k' n) := (ev_congr fun s h => hs s (by simp [islots, h])).trans hy
  have e1 := vr_int (he.eval h1 hx2)
  have e3 := vr_int (he.eval h2 hy2)
  obtain ⟨hzl, hzsc, hzv⟩ := ofL_ofV (m := m) (h := h) (w := w) hzs
  have hzl' : z.length = i.size := by simpa [hzz] using hzl
  have hn1 : n * 1 ≤ n * i.bytes := Nat.mul_le_mul_left _ hbb
  have hmul : ((n : Int) * (i.bytes : Int)) = ((n * i.bytes : Nat) : Int) := by simp
  have hrun := run_make (P := P) w t el i zv hu hi hz k k' n n (by omega) (Int.le_refl _) (by rw [Int.mul_comm]; omega) (by omega)
  have st : Step m h w m h (w.alloc (.cells (madeCells zv.cells (n * i.size)) el)) := step_alloc hr _
  refine ⟨m, _, hr.alloc _, st, .slice (some ⟨w.heap.size, 0, none⟩) n n, by simp [execOp, hop, e1, e3, hrun], ?_⟩
  have key := VR.imm (m := m) (h := h) (w := w.alloc (.cells (madeCells zv.cells (n * i.size)) el)) i.size (List.replicate n z) w.heap.size 0 n (fun k => (madeCells zv.cells (n * i.size)).getD k undef) (fun q hq => ⟨?_, ?_⟩) (fun x hx => by rw [List.eq_of_mem_replicate hx]; exact hzl') (fun x hx => by rw [List.eq_of_mem_replicate hx]; exact hzsc) (fun q cells hq j v hj => ?_) (by simp)
  · simp only [List.length_replicate] at key
    exact key
  · rw [Nat.zero_add, World.cell?_alloc_new]
    simp only [List.length_replicate] at hq
    simp [Array.getD_eq_getD_getElem?, show q < (madeCells zv.cells (n * i.size)).size by rw [size_madeCells]; exact hq]
  · rintro ⟨id, t', ⟨x, hx⟩, hmx, _⟩
    have := (hr.obj id x hx).lt hmx
    omega
  · have hql : q < n := by simpa using (List.getElem?_eq_some_iff.1 hq).1
    have hc : cells = z := List.eq_of_mem_replicate (List.mem_of_getElem? hq)
    subst hc
    have hjl : j < i.size := by rw [← hzl']; exact (List.getElem?_eq_some_iff.1 hj).1
    have hlt := idx_lt hql hjl
    have := hzv j v hj
    simp only [madeCells, Array.getD_eq_getD_getElem?]
    rw [Array.getElem?_map, Array.getElem?_range, if_pos hlt]
    simp only [Option.map_some, Option.getD_some]
    have hmod : (q * i.size + j) % zv.cells.size = j := by rw [hzz, Nat.mul_comm, Nat.mul_add_mod, Nat.mod_eq_of_lt hjl]
    rw [hmod]
    refine VR.step st ?_
    simpa [List.getD_eq_getElem?_getD, Array.getElem?_eq_getElem (show j < zv.cells.size by omega), getElem!_pos zv.cells j (by omega)] using this
/-- A row of cells, each told with less. -/
theorem SubV.imm {sz : Nat} {c d : List (List AV)} (hl : c.length = d.length) (hs : ∀ (i : Nat) (x y : List AV), c[i]? = some x → d[i]? = some y → SubL x y) (hsc : Scal d) : SubV (.imm sz c) (.imm sz d) := fun m h w cv hv => by
  have hlen : Len sz c → Len sz d := fun h y hy => by
    obtain ⟨i, hi, rfl⟩ := List.mem_iff_getElem.1 hy
    have h1 := List.getElem?_eq_getElem (show i < c.length by omega)
    rw [← (hs i _ _ h1 (List.getElem?_eq_getElem hi)).len]
    exact h _ (List.getElem_mem _)
  cases hv with
  | imm0 => cases d with
    | nil => exact .imm0 _
    | cons => simp at hl
  | imm1 => cases d with
    | nil => exact .imm1 _ _ _
    | cons => simp at hl
  | imm _ _ b o cap F hic hln hs2 hrr hc =>
    rw [hl]
    refine .imm _ _ b o cap F (by rw [← hl]; exact hic) (hlen hln) hsc (fun i cells hi j v hj => ?_) (by omega)
    have hlt : i < c.length := by rw [hl]; exact (List.getElem?_eq_some_iff.1 hi).1
    have hx := hs i _ _ (List.getElem?_eq_getElem hlt) hi
    have hjl : j < c[i].length := by rw [hx.len]; exact (List.getElem?_eq_some_iff.1 hj).1
    exact hx.get j _ _ (List.getElem?_eq_getElem hjl) hj _ _ _ _ (hrr i _ (List.getElem?_eq_getElem hlt) j _ (List.getElem?_eq_getElem hjl))
/-- Rows that are nil, as rows of nothing. -/
theorem SubV.nilRows {n : Nat} : SubV (.imm 1 (List.replicate n [.nils])) (.imm 1 (List.replicate n [.imm 1 []])) :=
  SubV.imm (by simp) (fun i x y hx hy => by
    rw [List.eq_of_mem_replicate (List.mem_of_getElem? hx), List.eq_of_mem_replicate (List.mem_of_getElem? hy)]
    exact .cons SubV.nil .nil) fun x hx v hv => by
    rw [List.eq_of_mem_replicate hx, List.mem_singleton] at hv; subst hv; rfl
end
end Go.Abs
