/- The abstract layer, part 5: loads, stores, new variables, fields, indexes, lengths. -/
import Derived.Test.YtlddahcgaonlhaaA4
set_option linter.all false
namespace Go.Abs
open Go

section
variable {P : Program} {N : Nat} {m : Inj} {h : AHeap} {w : World} {e : Env} {a : Act} {nm : Nat} {o : Oper}

theorem vr_ptr {id i off : Nat} {c : Value} (hv : VR m h w (.ptr id i off) c) : ∃ ad, c = .pointer (some ad) ∧ h.used id ∧ ∀ sz c', h.get id = some (.mem sz c') → ∃ b, m id = some (b, 0) ∧ ad = ⟨b, i * sz + off, none⟩ := by
  cases hv with
  | ptr _ _ _ ad hu ha => exact ⟨ad, rfl, hu, ha⟩

theorem getD_range (G : Nat → Value) (n i : Nat) (hi : i < n) : (((List.range n).map G).toArray).getD i undef = G i := by
  simp [Array.getD_eq_getD_getElem?, hi]

theorem getC_vr {sz : Nat} {ag : Bool} {cells : List AV} {off s : Nat} {v : AV} (hg : getC sz ag cells off = some v) (hag : ag = true ∨ sz = 1) (hl : cells.length = s) (hsc : ∀ v ∈ cells, v.scalar = true) {G : Nat → Value}
    (hG : ∀ j v, cells[off + j]? = some v → VR m h w v (G j)) : off + sz ≤ s ∧ (ag = true → VR m h w v (.agg ((List.range sz).map G).toArray)) ∧ (ag = false → VR m h w v (G 0)) := by
  unfold getC at hg
  split at hg
  · rename_i hle
    refine ⟨by omega, fun hat => ?_, fun haf => ?_⟩
    · subst hat
      simp at hg
      subst hg
      refine .agg _ _ (by simp; omega) (fun v hv => hsc v (List.mem_of_mem_drop (List.mem_of_mem_take hv))) fun i v hv => ?_
      rw [List.getElem?_take] at hv
      split at hv
      · rename_i hi
        rw [List.getElem?_drop] at hv
        rw [getD_range G sz i hi]
        exact hG i v hv
      · cases hv
    · subst haf
      simp at hg
      exact hG 0 v (by simpa using hg)
  · cases hg

theorem ok_load (hr : HR m h w) (he : ER N m h w e a) {t : TypeId} {sz : Nat} {ag : Bool} (ht : tyI P t = some (sz, ag)) (hag : ag = true ∨ sz = 1) {x : Operand} {x' : Opd} (ho : o.op = .load t x) (h1 : ofOpd N x = some x')
    {r : Option AV} {f : Eff} (hv : evalI nm (.load sz ag x') e h.get = some (r, f)) : OpOK P o a m h w nm r f := by
  obtain ⟨hsz, hagg⟩ := tyI_some ht
  simp only [evalI] at hv
  split at hv
  · rename_i p g1
    split at hv
    · rename_i s c i off g2
      split at hv
      · rename_i cells g3
        split at hv
        · rename_i v g4
          cases hv
          obtain ⟨ad, hp, hlen, hcell⟩ := rdP_vr hr (he.eval h1 g1) g2
          obtain ⟨G, hG1, hG2, hsc⟩ := hcell cells g3
          have hl := hlen cells (List.mem_of_getElem? g3)
          obtain ⟨hle, hA, hB⟩ := getC_vr g4 hag hl hsc hG2
          cases ag with
          | true =>
            refine OpOK.pure hr ?_ (hA rfl)
            have := run_loadCells (P := P) w ad sz G (fun j hj => hG1 j (by omega))
            simp [execOp, ho, hp, Instr.loadAt, Instr.sureAddr, loadVar, hagg, hsz, this]
          | false =>
            refine OpOK.pure hr ?_ (hB rfl)
            have h10 : sz = 1 := by simpa using hag
            have := hG1 0 (by omega)
            rw [Addr.add_zero'] at this
            simp [execOp, ho, hp, Instr.loadAt, Instr.sureAddr, loadVar, hagg, this]
        · cases hv
      · cases hv
    · cases hv
  · cases hv

theorem ok_fld (hr : HR m h w) (he : ER N m h w e a) {s : TypeId} {fs : Array Field} {fi : Nat} {fd : Field} {sz : Nat} {ag : Bool} (hs : P.underlying s = some (.struct fs)) (hf : fs[fi]? = some fd) (ht : tyI P fd.type = some (sz, ag)) (hag : ag = true ∨ sz = 1)
    {x : Operand} {x' : Opd} (ho : o.op = .field s x fi) (h1 : ofOpd N x = some x')
    {r : Option AV} {f : Eff} (hv : evalI nm (.fld fd.offset sz ag x') e h.get = some (r, f)) : OpOK P o a m h w nm r f := by
  obtain ⟨hsz, hagg⟩ := tyI_some ht
  simp only [evalI] at hv
  split at hv
  · rename_i cells g1
    split at hv
    · rename_i v g2
      cases hv
      have e1 := he.eval h1 g1
      generalize hcx : a.eval x = cx at e1
      cases e1 with
      | agg _ cs hl hsc hvs =>
        obtain ⟨hle, hA, hB⟩ := getC_vr (G := fun j => cs.getD (fd.offset + j) undef) g2 hag hl hsc (fun j v hj => hvs _ v hj)
        cases ag with
        | true =>
          refine OpOK.pure hr (cv := .agg (cs.extract fd.offset (fd.offset + sz))) ?_ ?_
          · simp [execOp, ho, hcx, Instr.field, run_underlying hs, hf, asAgg, part, hagg, hsz]
          · have := hA rfl
            have e : cs.extract fd.offset (fd.offset + sz) = (List.map (fun j => cs.getD (fd.offset + j) undef) (List.range sz)).toArray := by
              apply Array.ext
              · simp; omega
              · intro i h1 h2
                simp at h1 h2
                simp [Array.getD_eq_getD_getElem?, Array.getElem?_eq_getElem (show fd.offset + i < cs.size by omega)]
            rw [e]; exact this
        | false =>
          have h10 : sz = 1 := by simpa using hag
          have hlt : fd.offset < cs.size := by omega
          refine OpOK.pure hr (cv := cs[fd.offset]) ?_ ?_
          · simp [execOp, ho, hcx, Instr.field, run_underlying hs, hf, asAgg, part, hagg, hlt]
          · have := hB rfl
            simpa [Array.getD_eq_getD_getElem?, hlt] using this
    · cases hv
  · cases hv

/-! ### a row's content is changed -/
theorem RowF.put {sz : Nat} {c : List (List AV)} {F G : Nat → Value} {i off : Nat} {cells vs : List AV} (hrow : RowF m h w sz c F) (hi : c[i]? = some cells) (hvs : ∀ u ∈ vs, u.scalar = true) (hle : off + vs.length ≤ cells.length)
    (hG : ∀ j u, vs[j]? = some u → VR m h w u (G j)) : RowF m h w sz (c.set i (putC cells off vs)) (fun k => if i * sz + off ≤ k ∧ k < i * sz + off + vs.length then G (k - (i * sz + off)) else F k) := by
  have hilt : i < c.length := (List.getElem?_eq_some_iff.1 hi).1
  have hcl : cells.length = sz := hrow.1 cells (List.mem_of_getElem? hi)
  have hpl : (putC cells off vs).length = sz := by simp [putC]; omega
  refine ⟨fun x hx => ?_, fun x hx => ?_, fun i' cells' hi' j v hj => ?_⟩
  · rcases List.mem_or_eq_of_mem_set hx with hx | rfl
    · exact hrow.1 x hx
    · exact hpl
  · rcases List.mem_or_eq_of_mem_set hx with hx | rfl
    · exact hrow.2.1 x hx
    · intro u hu
      simp only [putC, List.mem_append] at hu
      rcases hu with (hu | hu) | hu
      · exact hrow.2.1 cells (List.mem_of_getElem? hi) u (List.mem_of_mem_take hu)
      · exact hvs u hu
      · exact hrow.2.1 cells (List.mem_of_getElem? hi) u (List.mem_of_mem_drop hu)
  · dsimp only
    by_cases e : i' = i
    · subst e
      rw [List.getElem?_set_self hilt] at hi'
      cases hi'
      simp only [putC, List.append_assoc] at hj
      by_cases h1 : j < off
      · rw [List.getElem?_append_left (by simp; omega), List.getElem?_take, if_pos h1] at hj
        rw [if_neg (by omega)]
        exact hrow.2.2 _ cells hi j v hj
      · rw [List.getElem?_append_right (by simp; omega)] at hj
        simp only [List.length_take, Nat.min_eq_left (show off ≤ cells.length by omega)] at hj
        by_cases h2 : j < off + vs.length
        · rw [List.getElem?_append_left (by omega)] at hj
          rw [if_pos (by omega), show i' * sz + j - (i' * sz + off) = j - off by omega]
          exact hG _ v hj
        · rw [List.getElem?_append_right (by omega), List.getElem?_drop] at hj
          rw [if_neg (by omega)]
          exact hrow.2.2 _ cells hi j v (by rwa [show off + vs.length + (j - off - vs.length) = j by omega] at hj)
    · rw [List.getElem?_set_ne (fun e' => e e'.symm)] at hi'
      have hjl : j < sz := by rw [← hrow.1 cells' (List.mem_of_getElem? hi')]; exact (List.getElem?_eq_some_iff.1 hj).1
      have hne : ¬ (i * sz + off ≤ i' * sz + j ∧ i' * sz + j < i * sz + off + vs.length) := by
        intro ⟨h1, h2⟩
        rcases Nat.lt_or_gt_of_ne e with h3 | h3
        · have : (i' + 1) * sz ≤ i * sz := Nat.mul_le_mul_right _ h3
          rw [Nat.add_mul] at this; omega
        · have : (i + 1) * sz ≤ i' * sz := Nat.mul_le_mul_right _ h3
          rw [Nat.add_mul] at this; omega
      rw [if_neg hne]
      exact hrow.2.2 i' cells' hi' j v hj

theorem getD_splice (cc : Array Value) (vs : List Value) (p : Nat) (hle : p + vs.length ≤ cc.size) (k : Nat) :
    ((cc.toList.take p ++ vs ++ cc.toList.drop (p + vs.length)).toArray).getD k undef = if p ≤ k ∧ k < p + vs.length then vs.getD (k - p) undef else cc.getD k undef := by
  simp only [Array.getD_eq_getD_getElem?, List.getElem?_toArray, List.append_assoc, List.getD_eq_getElem?_getD]
  by_cases h1 : k < p
  · rw [List.getElem?_append_left (by simp; omega), List.getElem?_take, if_pos h1, if_neg (by omega)]
    simp
  · rw [List.getElem?_append_right (by simp; omega)]
    simp only [List.length_take, Array.length_toList, Nat.min_eq_left (show p ≤ cc.size by omega)]
    by_cases h2 : k < p + vs.length
    · rw [List.getElem?_append_left (by omega), if_pos (by omega)]
    · rw [List.getElem?_append_right (by omega), List.getElem?_drop, if_neg (by omega)]
      rw [show p + vs.length + (k - p - vs.length) = k by omega]
      simp

/-- Cells of a row are written; the row reads as the content x says. -/
theorem write_row (hr : HR m h w) {id sz : Nat} {c c' : List (List AV)} {b : Nat} {cc cc' : Array Value} {T : TypeId} (hid : h.get id = some (.mem sz c)) (hm : m id = some (b, 0)) (hb : w.heap[b]? = some (.cells cc T (0, 0)))
    (hs : cc'.size = cc.size) (hl : c'.length = c.length) (hsz : c.length * sz ≤ cc.size) (hrow : RowF m h w sz c' (fun k => cc'.getD k undef)) :
    HR m (h.set id (some (.mem sz c'))) (w.setRow b cc') ∧ Step m h w m (h.set id (some (.mem sz c'))) (w.setRow b cc') := by
  have wu := WUpd.setRow w b cc cc' T (0, 0) hb hs
  have hc : Compat (.mem sz c) (.mem sz c') := ⟨rfl, by omega⟩
  have st := step_set hr hid hm hc wu
  exact ⟨HR.set hr hid hm hc wu ⟨b, cc', T, hm, setRow_heap w b cc cc' T (0, 0) hb, by rw [hl, hs]; exact hsz, hrow.step st⟩, st⟩

theorem isTup_ne {v : AV} (hv : v.isTup = false) : ∀ u, v ≠ .tup u := by
  intro u e; subst e; simp [AV.isTup] at hv

theorem ok_store (hr : HR m h w) (he : ER N m h w e a) {t : TypeId} {i : TypeInfo} (ht : P.info? t = some i) {x y : Operand} {x' y' : Opd} (ho : o.op = .store t x y) (h1 : ofOpd N x = some x') (h2 : ofOpd N y = some y')
    {r : Option AV} {f : Eff} (hv : evalI nm (.store i.size x' y') e h.get = some (r, f)) : OpOK P o a m h w nm r f := by
  simp only [evalI] at hv
  split at hv
  · rename_i id j off v g1 g2
    split at hv
    · rename_i s c g3
      split at hv
      · rename_i cells g4
        split at hv
        · rename_i hcond
          cases hv
          obtain ⟨hvl, hle, htup⟩ := hcond
          obtain ⟨ad, hp, hu, ha⟩ := vr_ptr (he.eval h1 g1)
          obtain ⟨b, hb, rfl⟩ := ha _ _ g3
          have hy := he.eval h2 g2
          have hvc := vr_cells hy (isTup_ne htup)
          have hone := vr_cells_one hy (isTup_ne htup)
          obtain ⟨b', cc, T, hb', hcc, hsz, hrow⟩ := hr.obj _ _ g3
          rw [hb] at hb'
          cases hb'
          have hjlt : j < c.length := (List.getElem?_eq_some_iff.1 g4).1
          have hcl : cells.length = s := hrow.1 cells (List.mem_of_getElem? g4)
          have hmul : (j + 1) * s ≤ c.length * s := Nat.mul_le_mul_right _ hjlt
          rw [Nat.add_mul] at hmul
          have hlen : (a.eval y).cells.toList.length = i.size := by simp [← hvc.1, hvl]
          have hst := run_storeCells_at P b (j * s + off) T (a.eval y).cells.toList 0 cc w hcc (by omega) hone
          simp only [Nat.add_zero] at hst
          have hrow2 : RowF m h w s (c.set j (putC cells off v.cs)) (fun k => ((cc.toList.take (j * s + off) ++ (a.eval y).cells.toList ++ cc.toList.drop (j * s + off + (a.eval y).cells.toList.length)).toArray).getD k undef) := by
            refine (hrow.put (G := fun k => (a.eval y).cells.toList.getD k undef) g4 hvc.2.1 (by omega) (fun k u hu => ?_)).mono_eq ?_
            · have := hvc.2.2 k u hu
              simpa [Array.getD_eq_getD_getElem?, List.getD_eq_getElem?_getD] using this
            · funext k
              rw [getD_splice cc _ _ (by omega)]
              rw [show v.cs.length = (a.eval y).cells.toList.length by omega]
          obtain ⟨hr', st⟩ := write_row hr g3 hb hcc (cc' := (cc.toList.take (j * s + off) ++ (a.eval y).cells.toList ++ cc.toList.drop (j * s + off + (a.eval y).cells.toList.length)).toArray)
            (by simp; omega) (by simp) hsz hrow2
          refine ⟨m, _, hr', st, ?_⟩
          have hcs : (a.eval y).cells.size = i.size := by simpa using hlen
          simp only [execOp, ho, hp, Instr.storeAt, Instr.sureAddr, storeVar, Sem.run_bind, Sem.run_pure, Result.andThen_ok, run_sizeOf' ht, hcs, ne_eq, not_true_eq_false, if_false, hst]
        · cases hv
      · cases hv
    · cases hv
  · cases hv
end
end Go.Abs
