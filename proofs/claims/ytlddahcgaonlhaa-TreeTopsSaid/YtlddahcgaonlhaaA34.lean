/- The abstract layer, part 34: an append to nothing whose row may be written by index afterwards. -/
import Derived.Test.YtlddahcgaonlhaaA33
set_option linter.all false
namespace Go.Abs
open Go

section
variable {P : Program} {N : Nat} {e : Env} {h : AHeap} {m : Inj} {w : World} {nm : Nat}

theorem grown_mem (hr : HR m h w) (hf : ¬ h.used nm) {sz cap : Nat} {d : List (List AV)} {F : Nat → Value} {cc : Array Value} {T : TypeId} (hrow : RowF m h w sz d F) (hcap : d.length ≤ cap) (hcc : cap * sz ≤ cc.size)
    (hF : ∀ k, k < d.length * sz → cc[k]? = some (F k)) :
    HR (upd m nm (some (w.heap.size, 0))) (h.put nm (.mem sz d)) (w.drew.alloc (.cells cc T)) ∧ Step m h w (upd m nm (some (w.heap.size, 0))) (h.put nm (.mem sz d)) (w.drew.alloc (.cells cc T)) ∧
      VR (upd m nm (some (w.heap.size, 0))) (h.put nm (.mem sz d)) (w.drew.alloc (.cells cc T)) (.ref nm 0 d.length) (.slice (some ⟨w.heap.size, 0, none⟩) d.length cap) := by
  have hle : d.length * sz ≤ cap * sz := Nat.mul_le_mul_right _ hcap
  have hrow2 : RowF m h w.drew sz d (fun k => cc.getD k undef) := by
    refine ⟨hrow.1, hrow.2.1, fun i cells hi j v hj => ?_⟩
    have h1 : i < d.length := (List.getElem?_eq_some_iff.1 hi).1
    have h2 : j < sz := by
      have := hrow.1 cells (List.mem_of_getElem? hi)
      have := (List.getElem?_eq_some_iff.1 hj).1
      omega
    have h3 : i * sz + j < d.length * sz := by
      have : (i + 1) * sz ≤ d.length * sz := Nat.mul_le_mul_right _ h1
      rw [Nat.succ_mul] at this
      omega
    have h4 : cc.getD (i * sz + j) undef = F (i * sz + j) := by
      rw [Array.getD_eq_getD_getElem?, hF _ h3]; rfl
    show VR m h w.drew v (cc.getD (i * sz + j) undef)
    rw [h4]
    exact (hrow.2.2 i cells hi j v hj).step step_drew
  obtain ⟨r1, r2⟩ := new_row (T := T) (hr.drew) hf (by omega) hrow2
  refine ⟨r1, Step.trans step_drew r2, .ref nm 0 d.length cap _ put_used_nm hcap fun s c hg => ?_⟩
  simp only [AHeap.put, if_true, Option.some.injEq, AObj.mem.injEq] at hg
  obtain ⟨rfl, rfl⟩ := hg
  exact ⟨w.heap.size, by simp [upd], by omega, .inr (by simp), cc, T, heap_alloc_new w.drew _, by rw [Nat.zero_add]; exact hcc⟩
theorem append_mem (hr : HR m h w) (hf : ¬ h.used nm) {t ty el : TypeId} {i : TypeInfo} {z : Value} (hu : P.underlying t = some (.slice el)) (hi : P.info? el = some i) (hz : i.zero = some z) (hsz : 0 < i.size) (hb : 0 < i.bytes) (hzz : z.cells.size = i.size)
    {base : Option Addr} {x : AV} {cx : Value} (hx : VR m h w x cx) {d : List (List AV)} (hd : rdS h.get i.size x = some d) (hne : d ≠ []) (hbig : d.length * i.bytes ≤ 140737488355328) :
    ∃ m' w' cv, (Builtin.append_ #[t, t] ty #[.slice base 0 0, cx]).run P w = .ok cv w' ∧ HR m' (h.put nm (.mem i.size d)) w' ∧ Step m h w m' (h.put nm (.mem i.size d)) w' ∧ VR m' (h.put nm (.mem i.size d)) w' (.ref nm 0 d.length) cv := by
  obtain ⟨ad, cap, F, rfl, hcap, hrow, h1c, hcell⟩ := rdS_list hr hx hd
  obtain ⟨b, o', rfl, hc⟩ := hcell hne
  have hpos : 0 < d.length := List.length_pos_iff.2 hne
  have hn1 : d.length * 1 ≤ d.length * i.bytes := Nat.mul_le_mul_left _ hb
  have hg := grownCap_ge w d.length 0 el
  have hsize : ∀ n, d.length ≤ n → n * i.size ≤ (((List.range (d.length * i.size)).map F).toArray ++ Builtin.zeroCells z.cells (n - d.length)).size := by
    intro n hn
    simp only [Array.size_append, List.size_toArray, List.length_map, List.length_range, size_zeroCells, hzz, ← Nat.add_mul]
    exact Nat.mul_le_mul_right _ (by omega)
  obtain ⟨r1, r2, r3⟩ := grown_mem (T := el) hr hf hrow hg (hsize _ hg) (fun k hk => range_get F _ k hk _)
  cases base with
  | none =>
    exact ⟨_, _, _, run_append_nil (P := P) w t ty el i z hu hi hz ⟨b, o', none⟩ d.length cap _ (by simp) hc hpos (by omega) (by omega), r1, r2, r3⟩
  | some bb =>
    have hrun := run_append_grow (P := P) w t ty el i z hu hi hz bb 0 0 [] (by simp) (by simp) ⟨b, o', none⟩ d.length cap ((List.range (d.length * i.size)).map F) (by simp) hc (by omega) (by omega) (growslice_fits (by omega) (by rw [Nat.zero_add]; exact hbig))
    simp only [Nat.zero_add, Array.empty_append] at hrun
    exact ⟨_, _, _, hrun, r1, r2, r3⟩
/-- An append to nothing, as a row of its own. -/
theorem FX.appM {d : Option Nat} {sz bytes : Nat} {x y : Opd} {g : Option (Nat × Bool)} {v : AV} {c : List (List AV)} (hf : ¬ h.used nm) (hx : ev e x = some .nils) (hy : ev e y = some v) (hc : rdS h.get sz v = some c) (hne : c ≠ []) (hb : c.length * bytes ≤ 140737488355328) (hg : met e g) : FX P N ⟨d, .app sz bytes x y, g⟩ e h (some (.ref nm 0 c.length)) (h.put nm (.mem sz c)) := by
  refine FX.ofN (f := .new (.mem sz c)) rfl hg fun o ho e2 hs m w a hr he => ?_
  obtain ⟨cl, s, n, t, el, i, z, hop, hcal, hargs, hat, hu, h1, h2, hi, hz, p1, p2, p3, rfl, rfl⟩ := cx_app ho
  have hx2 : ev e2 x = some .nils := (ev_congr fun s h => hs s (by simp [islots, h])).trans hx
  have hy2 : ev e2 y = some v := (ev_congr fun s h => hs s (by simp [islots, h])).trans hy
  have ha' : cl.args = #[s, n] := by rw [← Array.toArray_toList (xs := cl.args), hargs]
  have hat' : cl.argTypes = #[t, t] := by rw [← Array.toArray_toList (xs := cl.argTypes), hat]
  have e1 := he.eval h1 hx2
  have e3 := he.eval h2 hy2
  have hbase : ∃ base, a.eval s = .slice base 0 0 := by
    generalize a.eval s = cx at e1
    cases e1 with
    | nils0 => exact ⟨_, rfl⟩
    | nils1 ad => exact ⟨_, rfl⟩
  obtain ⟨base, hcx⟩ := hbase
  obtain ⟨m', w', cv, q1, q2, q3, q4⟩ := append_mem (P := P) (ty := o.type) (base := base) hr hf hu hi hz p1 p2 p3 e3 hc hne hb
  exact ⟨m', w', q2, q3, cv, by simp [execOp, hop, resolve, hcal, ha', hat', invoke, builtin, hcx, q1], q4⟩
variable {n0 : Nat} {al ws rs fs : List Nat} {K : Env → AHeap → Prop} {l : List CI} {j : Nat}
/-- In a drawn region: an append to nothing as a row of its own, under a kept name. -/
theorem DA.appM {d : Nat} {sz bytes : Nat} {x y : Opd} {g : Option (Nat × Bool)} {v : AV} {c : List (List AV)} {i n : Nat} {W : List Nat} {h0 : AHeap} (hx : ev e x = some .nils) (hy : ev e y = some v) (hc : ∀ h2 : AHeap, rdS h2.get sz v = some c) (hne : c ≠ []) (hb : c.length * bytes ≤ 140737488355328) (hi : al.idxOf j = i) (hg : met e g) (ha : al.contains j = true) (hr : rs.contains j = false) (hf : fs.contains j = false)
    (k : DA P N (PhiW n W h0) n al ws rs fs K (j + 1) l ((d, some (.ref (n + i) 0 c.length)) :: e) (h.put (n + i) (.mem sz c))) : DA P N (PhiW n W h0) n al ws rs fs K j (⟨some d, .app sz bytes x y, g⟩ :: l) e h := by
  subst hi
  exact .fx (r := some (.ref (n + al.idxOf j) 0 c.length)) [.put (n + al.idxOf j) (.mem sz c)] (fun hz => by rw [ha] at hz; cases hz) (fun hz => by simp [free0] at hz) (fun _ hz => by rw [ha] at hz; cases hz) (fun _ => ⟨_, rfl, fun h2 hu => FX.appM hu hx hy (hc h2) hne hb hg⟩) (fun hz => by rw [hr] at hz; cases hz)
    (fun hz => by rw [ha] at hz; cases hz) (fun h2 hp => PhiW.put (Nat.le_add_right _ _) hp) (fun hz => by rw [hf] at hz; cases hz) k
/-- The same with a row that is not written: told wherever it is drawn. -/
theorem DA.appF {d : Nat} {sz bytes : Nat} {x y : Opd} {g : Option (Nat × Bool)} {v : AV} {c : List (List AV)} {n : Nat} {W : List Nat} {h0 : AHeap} (hx : ev e x = some .nils) (hy : ev e y = some v) (hc : ∀ h2 : AHeap, FX P N ⟨some d, .app sz bytes x y, g⟩ e h2 (some (.imm sz c)) h2) (hi : al.contains j = false) (hr : rs.contains j = false) (hf : fs.contains j = true)
    (k : DA P N (PhiW n W h0) n0 al ws rs fs K (j + 1) l ((d, some (.imm sz c)) :: e) h) : DA P N (PhiW n W h0) n0 al ws rs fs K j (⟨some d, .app sz bytes x y, g⟩ :: l) e h :=
  .fx (r := some (.imm sz c)) [] (fun _ => hc h) (fun hz => by simp [free0] at hz) (fun _ _ => rfl) (fun hz => by rw [hi] at hz; cases hz) (fun hz => by rw [hr] at hz; cases hz) (fun _ => ⟨by simp, by simp⟩) (fun _ hp => hp) (fun _ => ⟨rfl, fun h2 _ => hc h2⟩) k
/-- A struct's first cell is a row of memory that is written no more. -/
theorem Cvt.frzA {s id n sz : Nat} {cc : List (List AV)} {us : List AV} (hs : lk s e = some (.agg (.ref id 0 n :: us))) (hg : h.get id = some (.mem sz cc)) (hl : cc.length = n) : Cvt e h ((s, some (.agg (.imm sz cc :: us))) :: e) (h.set id none) := fun N m w a hr he => by
  refine ⟨m, hr.del id, ?_, step_del id⟩
  have he' := he.step (step_del id)
  refine ⟨he'.size, he'.defers, fun i v hi => ?_⟩
  simp only [lk_cons, lk_nil] at hi
  split at hi
  · rename_i e1
    subst e1
    cases hi
    have hv := he.val i _ hs
    generalize a.tmps.getD i undef = cv at hv
    cases hv with
    | agg vs cs h1 h2 h3 =>
      refine .agg _ _ (by simpa using h1) (fun v hv => ?_) fun k v hk => ?_
      · rcases List.mem_cons.1 hv with rfl | hv
        · rfl
        · exact h2 v (List.mem_cons_of_mem _ hv)
      · cases k with
        | zero =>
          simp only [List.getElem?_cons_zero, Option.some.injEq] at hk
          subst hk
          have := ref_imm hr hg (h3 0 _ rfl)
          simpa [hl, List.take_of_length_le (Nat.le_of_eq hl)] using this
        | succ k =>
          exact (h3 (k + 1) v (by simpa using hk)).step (step_del id)
  · exact he'.val i v hi
end
end Go.Abs
