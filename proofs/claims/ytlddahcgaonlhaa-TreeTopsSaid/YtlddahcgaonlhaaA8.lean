/- The abstract layer, part 8: append and copy. -/
import Derived.Test.YtlddahcgaonlhaaA7
set_option linter.all false
namespace Go.Abs
open Go

section
variable {P : Program} {N : Nat} {m : Inj} {h : AHeap} {w : World} {e : Env} {a : Act} {nm : Nat} {o : Oper}

/-- The real elements of a slice that reads as d, as a list. -/
theorem rdS_list (hr : HR m h w) {s : AV} {cs : Value} (hv : VR m h w s cs) {sz : Nat} {d : List (List AV)} (hp : rdS h.get sz s = some d) :
    ∃ ad cap F, cs = .slice ad d.length cap ∧ d.length ≤ cap ∧ RowF m h w sz d F ∧ (∀ u ∈ (List.range (d.length * sz)).map F, u.oneCell' = true) ∧ (d ≠ [] → ∃ b o, ad = some ⟨b, o, none⟩ ∧ ∀ j v, ((List.range (d.length * sz)).map F)[j]? = some v → w.cell? ((⟨b, o, none⟩ : Addr).add j) = some v) := by
  obtain ⟨ad, cap, rfl, hcap, F, hrow, hcell⟩ := rdS_vr hr hv hp
  refine ⟨ad, cap, F, rfl, hcap, hrow, fun u hu => ?_, fun hne => ?_⟩
  · simp only [List.mem_map, List.mem_range] at hu
    obtain ⟨k, hk, rfl⟩ := hu
    have hsz : 0 < sz := by
      rcases Nat.eq_zero_or_pos sz with e | e
      · subst e; simp at hk
      · exact e
    have h1 : k / sz < d.length := by rw [Nat.div_lt_iff_lt_mul hsz]; exact hk
    have h2 : k % sz < sz := Nat.mod_lt _ hsz
    have hl := hrow.1 d[k / sz] (List.getElem_mem h1)
    have h3 : k % sz < d[k / sz].length := by omega
    have := hrow.2.2 (k / sz) d[k / sz] (List.getElem?_eq_getElem h1) (k % sz) _ (List.getElem?_eq_getElem h3)
    rw [Nat.mul_comm, Nat.div_add_mod] at this
    exact this.scalar_one (hrow.2.1 _ (List.getElem_mem h1) _ (List.getElem_mem h3))
  · obtain ⟨b, o, rfl, hc⟩ := hcell hne
    refine ⟨b, o, rfl, fun j v hj => ?_⟩
    have hj' := hj
    rw [List.getElem?_map] at hj
    have hlt : j < d.length * sz := by simpa using (List.getElem?_eq_some_iff.1 hj').1
    rw [List.getElem?_range hlt] at hj
    simp at hj
    subst hj
    rw [Addr.add_lit]
    exact hc j hlt

theorem run_append_zero (t ty el : TypeId) (i : TypeInfo) (ht : P.underlying t = some (.slice el)) (hi : P.info? el = some i) (base ad : Option Addr) (sLen sCap cap : Nat) (hle : sLen ≤ sCap) :
    (Builtin.append_ #[t, t] ty #[.slice base sLen sCap, .slice ad 0 cap]).run P w = .ok (.slice base sLen sCap) w := by
  cases ad <;> cases base <;> simp [Builtin.append_, run_underlying ht, run_sizeOf' hi, Builtin.lenOf, hle, Builtin.firstCells, loadCells, loadCellsFrom, storeCells]

theorem run_append_room' (t ty el T : TypeId) (i : TypeInfo) (ht : P.underlying t = some (.slice el)) (hi : P.info? el = some i)
    (g sLen sCap : Nat) (cur : Array Value) (hg : w.heap[g]? = some (.cells cur T (0, 0)))
    (ad : Addr) (n c : Nat) (news : List Value) (hl : news.length = n * i.size) (hnews : ∀ j u, news[j]? = some u → w.cell? (ad.add j) = some u) (h1 : ∀ u ∈ news, u.oneCell' = true)
    (hroom : sLen + n ≤ sCap) (hfit : sLen * i.size + news.length ≤ cur.size) :
    (Builtin.append_ #[t, t] ty #[.slice (some ⟨g, 0, none⟩) sLen sCap, .slice (some ad) n c]).run P w =
      .ok (.slice (some ⟨g, 0, none⟩) (sLen + n) sCap) (w.setRow g (cur.toList.take (sLen * i.size) ++ news ++ cur.toList.drop (sLen * i.size + news.length)).toArray) := by
  have hf := run_firstCells_some (P := P) w i.size n ad n c news hl hnews
  have hst := run_storeCells_at P g (sLen * i.size) T news 0 cur w hg (by simpa using hfit) h1
  simp only [Nat.add_zero] at hst
  simp [Builtin.append_, run_underlying ht, sizeOf, typeInfo, hi, Builtin.lenOf, hroom, hf, Addr.add_lit, hst]

theorem set_used {id j : Nat} {x : Option AObj} : (h.set id x).used j ↔ h.used j := Iff.rfl

/-- A fresh row that grew: what stands behind it. -/
theorem grown_row (hr : HR m h w) (hf : ¬ h.used nm) {sz cap : Nat} {d : List (List AV)} {F : Nat → Value} {cc : Array Value} {T : TypeId} (hrow : RowF m h w sz d F) (hcap : d.length ≤ cap) (hcc : cap * sz ≤ cc.size)
    (hF : ∀ k, k < d.length * sz → cc[k]? = some (F k)) :
    HR (upd m nm (some (w.heap.size, d.length * sz))) (h.put nm (.tail 0 d.length)) (w.drew.alloc (.cells cc T)) ∧ Step m h w (upd m nm (some (w.heap.size, d.length * sz))) (h.put nm (.tail 0 d.length)) (w.drew.alloc (.cells cc T)) ∧
      VR (upd m nm (some (w.heap.size, d.length * sz))) (h.put nm (.tail 0 d.length)) (w.drew.alloc (.cells cc T)) (.app nm 0 sz d) (.slice (some ⟨w.heap.size, 0, none⟩) d.length cap) := by
  have hr1 := hr.drew
  have st := Step.trans (step_drew (m := m) (h := h) (w := w)) (step_put hr1 hf (.tail 0 d.length) (.cells cc T) (d.length * sz))
  have hrr := HR.put (t := d.length * sz) (o := .cells cc T) (x := .tail 0 d.length) hr1 hf (fun b s hb => by
    simp only [upd, if_true] at hb
    cases hb
    exact ⟨cc, T, heap_alloc_new w.drew _⟩)
  refine ⟨hrr, st, .app nm 0 sz d w.heap.size cap F put_used_nm (fun k hk => ⟨?_, ?_⟩) hrow.1 hrow.2.1 (fun i cells hi j v hj => (hrow.2.2 i cells hi j v hj).step st) hcap fun g' n' hg => ?_⟩
  · rw [Nat.zero_add]
    have := World.cell?_alloc_new w.drew cc T k
    rw [show w.drew.heap.size = w.heap.size from rfl] at this
    rw [this]
    exact hF k hk
  · rintro ⟨id, t, ⟨x, hx⟩, hmx, hle⟩
    by_cases e : id = nm
    · subst e; simp only [upd, if_true] at hmx; cases hmx; omega
    · simp only [AHeap.put, if_neg e] at hx
      simp only [upd, if_neg e] at hmx
      have := (hr.obj id x hx).lt hmx
      omega
  · simp only [AHeap.put, if_true, Option.some.injEq, AObj.tail.injEq] at hg
    obtain ⟨rfl, rfl⟩ := hg
    exact ⟨Nat.le_refl _, fun _ => ⟨Nat.le_refl _, fun _ => ⟨by simp [upd], cc, T, heap_alloc_new w.drew _, hcc⟩⟩⟩
theorem set_same {id : Nat} {x : AObj} (hg : h.get id = some x) : h.set id (some x) = h := by
  cases h with
  | mk get next gap =>
    simp only [AHeap.set, AHeap.mk.injEq, and_true]
    funext j
    split
    · rename_i e; subst e; exact hg.symm
    · rfl
/-- A token's row that grew out of its block. -/
theorem grown_mv (hr : HR m h w) {id g n : Nat} (hid : h.get id = some (.tail g n)) {sz cap : Nat} {d : List (List AV)} {F : Nat → Value} {cc : Array Value} {T : TypeId} (hrow : RowF m h w sz d F) (hn : n < d.length) (hcap : d.length ≤ cap) (hcc : cap * sz ≤ cc.size)
    (hF : ∀ k, k < d.length * sz → cc[k]? = some (F k)) :
    HR (upd m id (some (w.heap.size, d.length * sz))) (h.set id (some (.tail g d.length))) (w.drew.alloc (.cells cc T)) ∧ Step m h w (upd m id (some (w.heap.size, d.length * sz))) (h.set id (some (.tail g d.length))) (w.drew.alloc (.cells cc T)) ∧
      VR (upd m id (some (w.heap.size, d.length * sz))) (h.set id (some (.tail g d.length))) (w.drew.alloc (.cells cc T)) (.app id g sz d) (.slice (some ⟨w.heap.size, 0, none⟩) d.length cap) := by
  have hr1 := hr.drew
  have hns : ¬ Same (.tail g n) (.tail g d.length) := fun e => by have := e.2; omega
  have hcm : Compat (.tail g n) (.tail g d.length) := .inr ⟨rfl, by omega⟩
  have st := Step.trans (step_drew (m := m) (h := h) (w := w)) (step_mv hr1 hid hcm hns (.cells cc T) (d.length * sz))
  refine ⟨HR.mv hr1 hid hcm hns cc T _, st, .app id g sz d w.heap.size cap F (hr.live _ _ hid) (fun k hk => ⟨?_, ?_⟩) hrow.1 hrow.2.1 (fun i cells hi j v hj => (hrow.2.2 i cells hi j v hj).step st) hcap fun g' n' hg => ?_⟩
  · rw [Nat.zero_add]
    have := World.cell?_alloc_new w.drew cc T k
    rw [show w.drew.heap.size = w.heap.size from rfl] at this
    rw [this]
    exact hF k hk
  · rintro ⟨j, t, ⟨x, hx⟩, hmx, hle⟩
    by_cases e : j = id
    · subst e; simp only [upd, if_true] at hmx; cases hmx; omega
    · simp only [AHeap.set, if_neg e] at hx
      simp only [upd, if_neg e] at hmx
      have := (hr.obj j x hx).lt hmx
      omega
  · simp only [AHeap.set, if_true, Option.some.injEq, AObj.tail.injEq] at hg
    obtain ⟨rfl, rfl⟩ := hg
    exact ⟨Nat.le_refl _, fun _ => ⟨Nat.le_refl _, fun _ => ⟨by simp [upd], cc, T, heap_alloc_new w.drew _, hcc⟩⟩⟩

theorem range_get (F : Nat → Value) (n k : Nat) (hk : k < n) (zs : Array Value) : (((List.range n).map F).toArray ++ zs)[k]? = some (F k) := by
  rw [Array.getElem?_append_left (by simp; exact hk)]
  simp [hk]

/-- Append to nothing (no room, no elements). -/
theorem append_fresh (hr : HR m h w) (hf : ¬ h.used nm) {t ty el : TypeId} {i : TypeInfo} {z : Value} (hu : P.underlying t = some (.slice el)) (hi : P.info? el = some i) (hz : i.zero = some z) (hsz : 0 < i.size) (hb : 0 < i.bytes) (hzz : z.cells.size = i.size)
    {base : Option Addr} {x : AV} {cx : Value} (hx : VR m h w x cx) {d : List (List AV)} (hd : rdS h.get i.size x = some d) (hbig : d.length * i.bytes ≤ 140737488355328) :
    ∃ m' w' cv, (Builtin.append_ #[t, t] ty #[.slice base 0 0, cx]).run P w = .ok cv w' ∧ HR m' (h.put nm (.tail 0 d.length)) w' ∧ Step m h w m' (h.put nm (.tail 0 d.length)) w' ∧ VR m' (h.put nm (.tail 0 d.length)) w' (.app nm 0 i.size d) cv := by
  obtain ⟨ad, cap, F, rfl, hcap, hrow, h1c, hcell⟩ := rdS_list hr hx hd
  by_cases hne : d = []
  · subst hne
    have tk : TokC (h.put nm (.tail 0 0)) nm 0 0 (upd m nm none nm = none) := fun g' n' hg => by
      simp only [AHeap.put, if_true, Option.some.injEq, AObj.tail.injEq] at hg
      exact ⟨by omega, fun _ => ⟨by omega, fun _ => by simp [upd]⟩⟩
    refine ⟨upd m nm none, w, .slice base 0 0, run_append_zero t ty el i hu hi base ad 0 0 cap (Nat.le_refl _), hr.putv hf, step_putv hr hf, ?_⟩
    cases base with
    | none => exact .app0 _ _ _ put_used_nm tk
    | some b => exact .app1 _ _ _ _ put_used_nm tk
  · obtain ⟨b, o', rfl, hc⟩ := hcell hne
    have hpos : 0 < d.length := List.length_pos_iff.2 hne
    have hn1 : d.length * 1 ≤ d.length * i.bytes := Nat.mul_le_mul_left _ hb
    have hg := grownCap_ge w d.length 0 el
    have hsize : ∀ n, d.length ≤ n → n * i.size ≤ (((List.range (d.length * i.size)).map F).toArray ++ Builtin.zeroCells z.cells (n - d.length)).size := by
      intro n hn
      simp only [Array.size_append, List.size_toArray, List.length_map, List.length_range, size_zeroCells, hzz, ← Nat.add_mul]
      exact Nat.mul_le_mul_right _ (by omega)
    obtain ⟨r1, r2, r3⟩ := grown_row (T := el) hr hf hrow hg (hsize _ hg) (fun k hk => range_get F _ k hk _)
    cases base with
    | none =>
      exact ⟨_, _, _, run_append_nil (P := P) w t ty el i z hu hi hz ⟨b, o', none⟩ d.length cap _ (by simp) hc hpos (by omega) (by omega), r1, r2, r3⟩
    | some bb =>
      have hrun := run_append_grow (P := P) w t ty el i z hu hi hz bb 0 0 [] (by simp) (by simp) ⟨b, o', none⟩ d.length cap ((List.range (d.length * i.size)).map F) (by simp) hc (by omega) (by omega) (growslice_fits (by omega) (by rw [Nat.zero_add]; exact hbig))
      simp only [Nat.zero_add, Array.empty_append] at hrun
      exact ⟨_, _, _, hrun, r1, r2, r3⟩

/-- Append to nothing, the row is grown no more: it needs no name. -/
theorem append_imm (hr : HR m h w) {t ty el : TypeId} {i : TypeInfo} {z : Value} (hu : P.underlying t = some (.slice el)) (hi : P.info? el = some i) (hz : i.zero = some z) (hsz : 0 < i.size) (hb : 0 < i.bytes) (hzz : z.cells.size = i.size)
    {base : Option Addr} {x : AV} {cx : Value} (hx : VR m h w x cx) {d : List (List AV)} (hd : rdS h.get i.size x = some d) (hbig : d.length * i.bytes ≤ 140737488355328) :
    ∃ w' cv, (Builtin.append_ #[t, t] ty #[.slice base 0 0, cx]).run P w = .ok cv w' ∧ HR m h w' ∧ Step m h w m h w' ∧ VR m h w' (.imm i.size d) cv := by
  obtain ⟨ad, cap, F, rfl, hcap, hrow, h1c, hcell⟩ := rdS_list hr hx hd
  by_cases hne : d = []
  · subst hne
    refine ⟨w, .slice base 0 0, run_append_zero t ty el i hu hi base ad 0 0 cap (Nat.le_refl _), hr, Step.refl _ _ _, ?_⟩
    cases base with
    | none => exact .imm0 _
    | some b => exact .imm1 _ _ _
  · obtain ⟨b, o', rfl, hc⟩ := hcell hne
    have hpos : 0 < d.length := List.length_pos_iff.2 hne
    have hn1 : d.length * 1 ≤ d.length * i.bytes := Nat.mul_le_mul_left _ hb
    have hg := grownCap_ge w d.length 0 el
    have fin : ∀ cc : Array Value, (∀ k, k < d.length * i.size → cc[k]? = some (F k)) → VR m h (w.drew.alloc (.cells cc el)) (.imm i.size d) (.slice (some ⟨w.heap.size, 0, none⟩) d.length (grownCap w d.length 0 el)) := fun cc hF => by
      have st := Step.trans (step_drew (m := m) (h := h) (w := w)) (step_alloc hr.drew (.cells cc el))
      refine .imm i.size d w.heap.size 0 _ F (fun k hk => ⟨?_, ?_⟩) hrow.1 hrow.2.1 (fun i cells hi j v hj => (hrow.2.2 i cells hi j v hj).step st) hg
      · rw [Nat.zero_add]
        have := World.cell?_alloc_new w.drew cc el k
        rw [show w.drew.heap.size = w.heap.size from rfl] at this
        rw [this]
        exact hF k hk
      · rintro ⟨id, t, ⟨x, hx⟩, hmx, hle⟩
        have := (hr.obj id x hx).lt hmx
        omega
    have r1 := fun cc : Array Value => (hr.drew).alloc (.cells cc el)
    have r2 := fun cc : Array Value => Step.trans (step_drew (m := m) (h := h) (w := w)) (step_alloc hr.drew (.cells cc el))
    cases base with
    | none =>
      exact ⟨_, _, run_append_nil (P := P) w t ty el i z hu hi hz ⟨b, o', none⟩ d.length cap _ (by simp) hc hpos (by omega) (by omega), r1 _, r2 _, fin _ (fun k hk => range_get F _ k hk _)⟩
    | some bb =>
      have hrun := run_append_grow (P := P) w t ty el i z hu hi hz bb 0 0 [] (by simp) (by simp) ⟨b, o', none⟩ d.length cap ((List.range (d.length * i.size)).map F) (by simp) hc (by omega) (by omega) (growslice_fits (by omega) (by rw [Nat.zero_add]; exact hbig))
      simp only [Nat.zero_add, Array.empty_append] at hrun
      exact ⟨_, _, hrun, r1 _, r2 _, fin _ (fun k hk => range_get F _ k hk _)⟩

/-- Append to a row whose tail is owned. -/
theorem append_own (hr : HR m h w) {t ty el : TypeId} {i : TypeInfo} {z : Value} (hu : P.underlying t = some (.slice el)) (hi : P.info? el = some i) (hz : i.zero = some z) (hsz : 0 < i.size) (hb : 0 < i.bytes) (hzz : z.cells.size = i.size)
    {id g : Nat} {c : List (List AV)} {cs : Value} (hs : VR m h w (.app id g i.size c) cs) (hid : h.get id = some (.tail g c.length)) {x : AV} {cx : Value} (hx : VR m h w x cx) {d : List (List AV)} (hd : rdS h.get i.size x = some d) (hbig : (c.length + d.length) * i.bytes ≤ 140737488355328) :
    ∃ m' w' cv, (Builtin.append_ #[t, t] ty #[cs, cx]).run P w = .ok cv w' ∧ HR m' (h.set id (some (.tail g (c.length + d.length)))) w' ∧ Step m h w m' (h.set id (some (.tail g (c.length + d.length)))) w' ∧ VR m' (h.set id (some (.tail g (c.length + d.length)))) w' (.app id g i.size (c ++ d)) cv := by
  obtain ⟨ad, capx, G, rfl, hcapx, hrow, h1c, hcell⟩ := rdS_list hr hx hd
  by_cases hd0 : d = []
  · subst hd0
    have e1 : h.set id (some (.tail g (c.length + ([] : List (List AV)).length))) = h := set_same hid
    rw [e1, List.append_nil]
    have hq : ∃ bb n cp, cs = .slice bb n cp ∧ n ≤ cp := by
      cases hs with
      | app0 => exact ⟨_, _, _, rfl, Nat.le_refl _⟩
      | app1 => exact ⟨_, _, _, rfl, Nat.le_refl _⟩
      | app _ _ _ _ b cap F hu' hic hl hsc hrr hc ht => exact ⟨_, _, _, rfl, hc⟩
    obtain ⟨bb, n, cp, rfl, hle⟩ := hq
    exact ⟨m, w, _, run_append_zero t ty el i hu hi bb ad n cp capx hle, hr, Step.refl _ _ _, hs⟩
  obtain ⟨b2, o2, rfl, hc2⟩ := hcell hd0
  have hposd : 0 < d.length := List.length_pos_iff.2 hd0
  have hn1 : (c.length + d.length) * 1 ≤ (c.length + d.length) * i.bytes := Nat.mul_le_mul_left _ hb
  have hcl : (c ++ d).length = c.length + d.length := List.length_append
  -- the row in a new block
  have fresh : ∀ (base : Addr) (cap : Nat) (F : Nat → Value), RowF m h w i.size c F → c.length ≤ cap → cap < c.length + d.length → (∀ j v, ((List.range (c.length * i.size)).map F)[j]? = some v → w.cell? (base.add j) = some v) →
      ∃ m' w' cv, (Builtin.append_ #[t, t] ty #[.slice (some base) c.length cap, .slice (some ⟨b2, o2, none⟩) d.length capx]).run P w = .ok cv w' ∧ HR m' (h.set id (some (.tail g (c.length + d.length)))) w' ∧ Step m h w m' (h.set id (some (.tail g (c.length + d.length)))) w' ∧ VR m' (h.set id (some (.tail g (c.length + d.length)))) w' (.app id g i.size (c ++ d)) cv := by
    intro base cap F hrc hcap hfull holds
    have hrowcd := RowF.append hrc hrow
    have hg := grownCap_ge w (c.length + d.length) cap el
    obtain ⟨r1, r2, r3⟩ := grown_mv (T := el) (cap := grownCap w (c.length + d.length) cap el) (cc := ((List.range (c.length * i.size)).map F).toArray ++ ((List.range (d.length * i.size)).map G).toArray ++ Builtin.zeroCells z.cells (grownCap w (c.length + d.length) cap el - (c.length + d.length))) hr hid hrowcd (by omega) (by omega)
      (by
        simp only [Array.size_append, List.size_toArray, List.length_map, List.length_range, size_zeroCells, hzz, ← Nat.add_mul]
        exact Nat.mul_le_mul_right _ (by omega))
      (fun k hk => by
        rw [hcl, Nat.add_mul] at hk
        rw [Array.getElem?_append_left (by simp; omega)]
        by_cases hk1 : k < c.length * i.size
        · rw [if_pos hk1]; exact range_get F _ k hk1 _
        · rw [if_neg hk1, Array.getElem?_append_right (by simp; omega)]
          simp [List.getElem?_range (show k - c.length * i.size < d.length * i.size by omega)])
    rw [hcl] at r1 r2 r3
    exact ⟨_, _, _, run_append_grow (P := P) w t ty el i z hu hi hz base c.length cap ((List.range (c.length * i.size)).map F) (by simp) holds ⟨b2, o2, none⟩ d.length capx ((List.range (d.length * i.size)).map G) (by simp) hc2 (by omega) (by omega) (growslice_fits (by omega) hbig), r1, r2, r3⟩
  cases hs with
  | app0 _ _ _ hu' ht =>
    simp only [List.length_nil, Nat.zero_add, List.nil_append] at hbig hid hn1 hcl ⊢
    have hg := grownCap_ge w d.length 0 el
    obtain ⟨r1, r2, r3⟩ := grown_mv (T := el) (cap := grownCap w d.length 0 el) (cc := ((List.range (d.length * i.size)).map G).toArray ++ Builtin.zeroCells z.cells (grownCap w d.length 0 el - d.length)) hr hid hrow hposd hg
      (by
        simp only [Array.size_append, List.size_toArray, List.length_map, List.length_range, size_zeroCells, hzz, ← Nat.add_mul]
        exact Nat.mul_le_mul_right _ (by omega))
      (fun k hk => range_get G _ k hk _)
    exact ⟨_, _, _, run_append_nil (P := P) w t ty el i z hu hi hz ⟨b2, o2, none⟩ d.length capx _ (by simp) hc2 hposd (by omega) (by omega), r1, r2, r3⟩
  | app1 _ _ _ ad hu' ht => exact fresh ad 0 (fun _ => undef) RowF.nil (Nat.le_refl _) (by simp; omega) (by simp)
  | app _ _ _ _ b cap F hu' hic hl hsc hrr hc ht =>
    have holds : ∀ j v, ((List.range (c.length * i.size)).map F)[j]? = some v → w.cell? ((⟨b, 0, none⟩ : Addr).add j) = some v := by
      intro j v hj
      have hlt : j < c.length * i.size := by simpa using (List.getElem?_eq_some_iff.1 hj).1
      rw [List.getElem?_map, List.getElem?_range hlt] at hj
      simp at hj
      subst hj
      rw [Addr.add_lit]
      exact (hic j hlt).1
    by_cases hroom : c.length + d.length ≤ cap
    · obtain ⟨hm, cc, T, hcc, hcs⟩ := ((ht _ _ hid).2 rfl).2 rfl
      have hF : ∀ k, k < c.length * i.size → cc[k]? = some (F k) := fun k hk => by
        have := (hic k hk).1
        rwa [Nat.zero_add, cell_of_row w b k cc T (0, 0) hcc] at this
      have hrowcd := (RowF.append (F := F) (G := G) ⟨hl, hsc, hrr⟩ hrow)
      have hmul : (c.length + d.length) * i.size ≤ cap * i.size := Nat.mul_le_mul_right _ hroom
      rw [Nat.add_mul] at hmul
      have hrun := run_append_room' (P := P) (w := w) t ty el T i hu hi b c.length cap cc hcc ⟨b2, o2, none⟩ d.length capx ((List.range (d.length * i.size)).map G) (by simp) hc2 h1c hroom (by simp; omega)
      generalize hnew : (cc.toList.take (c.length * i.size) ++ (List.range (d.length * i.size)).map G ++ cc.toList.drop (c.length * i.size + ((List.range (d.length * i.size)).map G).length)).toArray = cc' at hrun
      have hsz' : cc'.size = cc.size := by rw [← hnew]; simp; omega
      have wu := WUpd.setRow w b cc cc' T (0, 0) hcc hsz'
      have hget : ∀ k, cc'.getD k undef = if c.length * i.size ≤ k ∧ k < c.length * i.size + d.length * i.size then G (k - c.length * i.size) else cc.getD k undef := by
        intro k
        rw [← hnew, getD_splice cc _ _ (by simp; omega)]
        simp only [List.length_map, List.length_range]
        split
        · rename_i hk
          simp [List.getD_eq_getElem?_getD, List.getElem?_map, List.getElem?_range (show k - c.length * i.size < d.length * i.size by omega)]
        · rfl
      have hcell' : ∀ k, k < cc.size → (w.setRow b cc').cell? ⟨b, k, none⟩ = some (cc'.getD k undef) := by
        intro k hk
        rw [cell_setRow_same w b k cc cc' T (0, 0) hcc]
        simp [Array.getD_eq_getD_getElem?, show k < cc'.size by omega]
      have hlow : ∀ o v, o < c.length * i.size → w.cell? ⟨b, o, none⟩ = some v → (w.setRow b cc').cell? ⟨b, o, none⟩ = some v := by
        intro o v ho hv
        have holt : o < cc.size := by omega
        rw [hcell' o holt, hget o, if_neg (by omega)]
        rw [cell_of_row w b o cc T (0, 0) hcc] at hv
        simp [Array.getD_eq_getD_getElem?, hv]
      have hns : Same (.tail g c.length) (.tail g (c.length + d.length)) → (c.length + d.length) * i.size = c.length * i.size := fun e => by have := e.2; omega
      have hcm : Compat (.tail g c.length) (.tail g (c.length + d.length)) := .inr ⟨rfl, by omega⟩
      have st := step_tok (t' := (c.length + d.length) * i.size) hr hid hm (Nat.mul_le_mul_right _ (by omega)) hcm hns wu hlow
      refine ⟨_, _, _, hrun, HR.tok hr hid hm (Nat.mul_le_mul_right _ (by omega)) hcm hns wu hlow, st, ?_⟩
      have := VR.app (m := upd m id (some (b, (c.length + d.length) * i.size))) (h := h.set id (some (.tail g (c.length + d.length)))) (w := w.setRow b cc') id g i.size (c ++ d) b cap (fun k => if k < c.length * i.size then F k else G (k - c.length * i.size)) hu'
        (fun k hk => ⟨?_, ?_⟩) hrowcd.1 hrowcd.2.1 (fun i' cells hi' j v hj => (hrowcd.2.2 i' cells hi' j v hj).step st) (by omega) (fun g' n' hg => ?_)
      · rwa [hcl] at this
      · rw [hcl, Nat.add_mul] at hk
        show _ = some (if k < c.length * i.size then F k else G (k - c.length * i.size))
        rw [Nat.zero_add, hcell' k (by omega), hget k]
        by_cases hk1 : k < c.length * i.size
        · rw [if_neg (by omega), if_pos hk1]
          simp [Array.getD_eq_getD_getElem?, hF k hk1]
        · rw [if_pos (by omega), if_neg hk1]
      · rw [hcl] at hk
        rintro ⟨j, s, ⟨y, hy⟩, hmy, hle⟩
        by_cases e : j = id
        · subst e; simp only [upd, if_true] at hmy; cases hmy; omega
        · simp only [AHeap.set, if_neg e] at hy
          simp only [upd, if_neg e] at hmy
          exact e (hr.inj j id y _ b s _ hy hid hmy hm)
      · simp only [AHeap.set, if_true, Option.some.injEq, AObj.tail.injEq] at hg
        obtain ⟨rfl, rfl⟩ := hg
        exact ⟨Nat.le_refl _, fun _ => ⟨by omega, fun _ => ⟨by simp [upd, hcl], cc', T, setRow_heap w b cc cc' T (0, 0) hcc, by omega⟩⟩⟩
    · exact fresh ⟨b, 0, none⟩ cap F ⟨hl, hsc, hrr⟩ hc (by omega) holds

theorem ok_app (hr : HR m h w) (hf : ¬ h.used nm) (he : ER N m h w e a) {c : Call} {s x : Operand} {s' x' : Opd} {t el : TypeId} {i : TypeInfo} {z : Value} (ho : o.op = .call c) (hc : c.callee = .builtin .append) (ha : c.args.toList = [s, x]) (hat : c.argTypes.toList = [t, t])
    (hu : P.underlying t = some (.slice el)) (hi : P.info? el = some i) (hz : i.zero = some z) (hsz : 0 < i.size) (hb : 0 < i.bytes) (hzz : z.cells.size = i.size) (h1 : ofOpd N s = some s') (h2 : ofOpd N x = some x')
    {r : Option AV} {f : Eff} (hv : evalI nm (.app i.size i.bytes s' x') e h.get = some (r, f)) : OpOK P o a m h w nm r f := by
  have ha' : c.args = #[s, x] := by rw [← Array.toArray_toList (xs := c.args), ha]
  have hat' : c.argTypes = #[t, t] := by rw [← Array.toArray_toList (xs := c.argTypes), hat]
  have hrun : ∀ {cv w'}, (Builtin.append_ #[t, t] o.type #[a.eval s, a.eval x]).run P w = .ok cv w' → (execOp a.eval o).run P w = .ok (.value cv) w' := by
    intro cv w' hr'
    simp [execOp, ho, resolve, hc, ha', hat', invoke, builtin, hr']
  simp only [evalI] at hv
  split at hv
  · rename_i y g1 g2
    split at hv
    · rename_i d g3
      obtain ⟨hbig, hv'⟩ := req_some hv
      cases hv'
      have e1 := he.eval h1 g1
      generalize hcs : a.eval s = cs at e1 hrun
      cases e1 with
      | nils0 =>
        obtain ⟨m', w', cv, q1, q2, q3, q4⟩ := append_fresh (P := P) (ty := o.type) hr hf hu hi hz hsz hb hzz (base := none) (he.eval h2 g2) g3 hbig
        exact ⟨m', w', q2, q3, cv, hrun q1, q4⟩
      | nils1 ad =>
        obtain ⟨m', w', cv, q1, q2, q3, q4⟩ := append_fresh (P := P) (ty := o.type) hr hf hu hi hz hsz hb hzz (base := some ad) (he.eval h2 g2) g3 hbig
        exact ⟨m', w', q2, q3, cv, hrun q1, q4⟩
    · cases hv
  · rename_i id k s2 cont y g1 g2
    split at hv
    · rename_i d k' n g3 g4
      obtain ⟨⟨rfl, rfl, rfl, hbig⟩, hv'⟩ := req_some hv
      cases hv'
      obtain ⟨m', w', cv, q1, q2, q3, q4⟩ := append_own (P := P) (ty := o.type) hr hu hi hz hsz hb hzz (he.eval h1 g1) g4 (he.eval h2 g2) g3 hbig
      exact ⟨m', w', q2, q3, cv, hrun q1, q4⟩
    · cases hv
  · cases hv

theorem ok_cpy (hr : HR m h w) (he : ER N m h w e a) {c : Call} {s x : Operand} {s' x' : Opd} {t el : TypeId} {i : TypeInfo} (ho : o.op = .call c) (hc : c.callee = .builtin .copy) (ha : c.args.toList = [s, x]) (hat : c.argTypes[0]? = some t)
    (hu : P.underlying t = some (.slice el)) (hi : P.info? el = some i) (h1 : ofOpd N s = some s') (h2 : ofOpd N x = some x')
    {r : Option AV} {f : Eff} (hv : evalI nm (.cpy i.size s' x') e h.get = some (r, f)) : OpOK P o a m h w nm r f := by
  have ha' : c.args = #[s, x] := by rw [← Array.toArray_toList (xs := c.args), ha]
  have hrun : ∀ {cv w'}, (Builtin.copy_ c.argTypes o.type #[a.eval s, a.eval x]).run P w = .ok cv w' → (execOp a.eval o).run P w = .ok (.value cv) w' := by
    intro cv w' hr'
    simp [execOp, ho, resolve, hc, ha', invoke, builtin, hr']
  simp only [evalI] at hv
  split at hv
  · rename_i id off l y g1 g2
    split at hv
    · rename_i sz cont cs g3 g4
      obtain ⟨⟨rfl, hle⟩, hv'⟩ := req_some hv
      cases hv'
      have e1 := he.eval h1 g1
      generalize hcs : a.eval s = cv1 at e1 hrun
      cases e1 with
      | ref _ _ _ cap ad hu' hcl hab =>
        obtain ⟨b, hb, _, had, cc, T, hcc, hcsz⟩ := hab _ _ g3
        obtain ⟨b', cc', T', hb', hcc', hsz, hrow⟩ := hr.obj _ _ g3
        rw [hb] at hb'
        cases hb'
        rw [hcc'] at hcc
        cases hcc
        obtain ⟨adx, capx, G, hcx, hcapx, hrowx, h1c, hcell⟩ := rdS_list hr (he.eval h2 g2) g4
        rw [hcx] at hrun
        by_cases hn0 : min cs.length l = 0
        · refine ⟨m, w, ?_, ?_, goInt 0, hrun ?_, ?_⟩
          · have : cont.take off ++ cs.take (min cs.length l) ++ cont.drop (off + min cs.length l) = cont := by rw [hn0]; simp
            rw [this]
            have wu : WUpd w w b := ⟨rfl, rfl, rfl, rfl, fun _ _ => rfl, fun cc T fz h => ⟨cc, h, rfl⟩⟩
            exact HR.set hr g3 hb (Compat.refl _) wu ⟨b, cc, T, hb, hcc', hsz, hrow.step (step_set hr g3 hb (Compat.refl _) wu)⟩
          · have : cont.take off ++ cs.take (min cs.length l) ++ cont.drop (off + min cs.length l) = cont := by rw [hn0]; simp
            rw [this]
            have wu : WUpd w w b := ⟨rfl, rfl, rfl, rfl, fun _ _ => rfl, fun cc T fz h => ⟨cc, h, rfl⟩⟩
            exact step_set hr g3 hb (Compat.refl _) wu
          · have hn0' : Nat.min cs.length l = 0 := hn0
            cases adx <;> simp [Builtin.copy_, hat, run_underlying hu, Builtin.lenOf, hn0', run_sizeOf' hi, Builtin.firstCells, loadCells, loadCellsFrom, storeCells]
          · rw [hn0]; exact .int _ _
        · have hnec : cs ≠ [] := by intro e; subst e; simp at hn0
          have hl0 : 0 < l := by omega
          obtain ⟨b2, o2, rfl, hc2⟩ := hcell hnec
          rcases had with h00 | rfl
          · omega
          · have hmul : (off + l) * i.size ≤ cont.length * i.size := Nat.mul_le_mul_right _ hle
            have hmul2 : (off + min cs.length l) * i.size ≤ (off + l) * i.size := Nat.mul_le_mul_right _ (by omega)
            rw [Nat.add_mul] at hmul2
            have hsub : ∀ j v, ((List.range (min cs.length l * i.size)).map G)[j]? = some v → w.cell? ((⟨b2, o2, none⟩ : Addr).add j) = some v := by
              intro j v hj
              have hlt : j < min cs.length l * i.size := by simpa using (List.getElem?_eq_some_iff.1 hj).1
              have hlt2 : j < cs.length * i.size := Nat.lt_of_lt_of_le hlt (Nat.mul_le_mul_right _ (Nat.min_le_left _ _))
              refine hc2 j v ?_
              rw [List.getElem?_map, List.getElem?_range hlt] at hj
              rw [List.getElem?_map, List.getElem?_range hlt2]
              exact hj
            have hone : ∀ u ∈ (List.range (min cs.length l * i.size)).map G, u.oneCell' = true := by
              intro u hu
              refine h1c u ?_
              simp only [List.mem_map, List.mem_range] at hu ⊢
              obtain ⟨k, hk, rfl⟩ := hu
              exact ⟨k, Nat.lt_of_lt_of_le hk (Nat.mul_le_mul_right _ (Nat.min_le_left _ _)), rfl⟩
            have hload := run_firstCells_some (P := P) w i.size (min cs.length l) ⟨b2, o2, none⟩ cs.length capx ((List.range (min cs.length l * i.size)).map G) (by simp) hsub
            have hst := run_storeCells_at P b (off * i.size) T ((List.range (min cs.length l * i.size)).map G) 0 cc w hcc' (by simp; omega) hone
            simp only [Nat.add_zero] at hst
            have hget := fun k => getD_splice cc ((List.range (min cs.length l * i.size)).map G) (off * i.size) (by simp; omega) k
            have hlen' : (cont.take off ++ cs.take (min cs.length l) ++ cont.drop (off + min cs.length l)).length = cont.length := by simp; omega
            have hrowA : RowF m h w i.size (cont.take off ++ cs.take (min cs.length l) ++ cont.drop (off + min cs.length l)) (fun k => ((cc.toList.take (off * i.size) ++ (List.range (min cs.length l * i.size)).map G ++ cc.toList.drop (off * i.size + ((List.range (min cs.length l * i.size)).map G).length)).toArray).getD k undef) := by
              refine RowF.congr (((hrow.take off).append (hrowx.take (min cs.length l))).append (hrow.drop (off + min cs.length l))) fun k hk => ?_
              rw [hlen'] at hk
              simp only [List.length_append, List.length_take, Nat.min_eq_left (show off ≤ cont.length by omega), Nat.min_eq_left (Nat.min_le_left cs.length l)]
              rw [hget k]
              simp only [List.length_map, List.length_range]
              rw [Nat.add_mul]
              by_cases hk1 : k < off * i.size
              · rw [if_pos (by omega), if_pos hk1, if_neg (by omega)]
              · by_cases hk2 : k < off * i.size + min cs.length l * i.size
                · rw [if_pos hk2, if_neg hk1, if_pos (by omega)]
                  simp [List.getD_eq_getElem?_getD, List.getElem?_map, List.getElem?_range (show k - off * i.size < min cs.length l * i.size by omega)]
                · rw [if_neg hk2, if_neg (by omega)]
                  congr 1
                  omega
            obtain ⟨hr', st⟩ := write_row hr g3 hb hcc' (cc' := (cc.toList.take (off * i.size) ++ (List.range (min cs.length l * i.size)).map G ++ cc.toList.drop (off * i.size + ((List.range (min cs.length l * i.size)).map G).length)).toArray) (by simp; omega) hlen' hsz hrowA
            refine ⟨m, _, hr', st, goInt ((min cs.length l : Nat) : Int), hrun ?_, .int _ _⟩
            have hload' : (Builtin.firstCells i.size (Nat.min cs.length l) (.slice (some ⟨b2, o2, none⟩) cs.length capx)).run P w = .ok ((List.range (min cs.length l * i.size)).map G).toArray w := hload
            have hun : (underlying t).run P w = .ok (.slice el) w := run_underlying hu w
            simp only [Builtin.copy_, hat, List.getElem?_toArray, List.getElem?_cons_zero, List.getElem?_cons_succ, Builtin.lenOf, Sem.run_bind, Sem.run_pure, Result.andThen_ok, hun, run_sizeOf' hi, hload', hst]
    · cases hv
  · cases hv
end
end Go.Abs
