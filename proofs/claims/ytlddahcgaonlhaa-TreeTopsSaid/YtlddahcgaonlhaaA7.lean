/- The abstract layer, part 7: structs, literals, make. -/
import Derived.Test.YtlddahcgaonlhaaA6
set_option linter.all false
namespace Go.Abs
open Go

section
variable {P : Program} {N : Nat} {m : Inj} {h : AHeap} {w : World} {e : Env} {a : Act} {nm : Nat} {o : Oper}

theorem foldl_set_list (off : Nat) : ∀ (vs : List Value) (s : Nat) (cells : Array Value),
    ((vs.zipIdx s).foldl (fun (cs : Array Value) (p : Value × Nat) => cs.setIfInBounds (off + p.2) p.1) cells).size = cells.size ∧
    ∀ k, ((vs.zipIdx s).foldl (fun (cs : Array Value) (p : Value × Nat) => cs.setIfInBounds (off + p.2) p.1) cells).getD k undef = if off + s ≤ k ∧ k < off + s + vs.length ∧ k < cells.size then vs.getD (k - (off + s)) undef else cells.getD k undef
  | [], s, cells => by
    refine ⟨rfl, fun k => ?_⟩
    rw [if_neg (by simp; omega)]
    rfl
  | v :: vs, s, cells => by
    obtain ⟨h1, h2⟩ := foldl_set_list off vs (s + 1) (cells.setIfInBounds (off + s) v)
    simp only [List.zipIdx_cons, List.foldl_cons]
    refine ⟨by rw [h1]; simp, fun k => ?_⟩
    rw [h2 k]
    simp only [Array.size_setIfInBounds, List.length_cons, Array.getD_eq_getD_getElem?, List.getD_eq_getElem?_getD]
    by_cases h3 : k = off + s
    · subst h3
      rw [if_neg (by omega)]
      by_cases h4 : off + s < cells.size
      · rw [if_pos (by omega), Array.getElem?_setIfInBounds_self_of_lt h4]
        simp
      · rw [if_neg (by omega), Array.getElem?_setIfInBounds]
        simp [h4]
    · rw [Array.getElem?_setIfInBounds_ne (fun e => h3 e.symm)]
      by_cases h5 : off + (s + 1) ≤ k ∧ k < off + (s + 1) + vs.length ∧ k < cells.size
      · rw [if_pos h5, if_pos (by omega)]
        rw [show k - (off + s) = (k - (off + (s + 1))) + 1 by omega]
        simp
      · rw [if_neg h5, if_neg (by omega)]

theorem foldl_set (off : Nat) (v : Array Value) (cells : Array Value) (hle : off + v.size ≤ cells.size) :
    (v.zipIdx.foldl (fun (cs : Array Value) (p : Value × Nat) => cs.setIfInBounds (off + p.2) p.1) cells).size = cells.size ∧
    ∀ k, (v.zipIdx.foldl (fun (cs : Array Value) (p : Value × Nat) => cs.setIfInBounds (off + p.2) p.1) cells).getD k undef = if off ≤ k ∧ k < off + v.size then v.getD (k - off) undef else cells.getD k undef := by
  rw [← Array.foldl_toList, Array.toList_zipIdx]
  obtain ⟨h1, h2⟩ := foldl_set_list off v.toList 0 cells
  refine ⟨h1, fun k => ?_⟩
  rw [h2 k]
  simp only [Array.length_toList, Nat.add_zero]
  by_cases h3 : off ≤ k ∧ k < off + v.size
  · rw [if_pos h3, if_pos (by omega)]
    simp [Array.getD_eq_getD_getElem?, List.getD_eq_getElem?_getD]
  · rw [if_neg h3, if_neg (by omega)]

theorem putC_get {cells vs : List AV} {off k : Nat} (hle : off + vs.length ≤ cells.length) : (putC cells off vs)[k]? = if off ≤ k ∧ k < off + vs.length then vs[k - off]? else cells[k]? := by
  simp only [putC, List.append_assoc]
  by_cases h1 : k < off
  · rw [List.getElem?_append_left (by simp; omega), List.getElem?_take, if_pos h1, if_neg (by omega)]
  · rw [List.getElem?_append_right (by simp; omega)]
    simp only [List.length_take, Nat.min_eq_left (show off ≤ cells.length by omega)]
    by_cases h2 : k < off + vs.length
    · rw [List.getElem?_append_left (by omega), if_pos (by omega)]
    · rw [List.getElem?_append_right (by omega), List.getElem?_drop, if_neg (by omega)]
      congr 1
      omega

/-- Parts filled in: abstract and real. -/
theorem fill_ok (place : Nat → Option (Nat × Nat)) : ∀ (ps : List (Nat × Nat × AV)) (qs : List (Nat × Value)) (cells : List AV) (cs : Array Value) (out : List AV),
    ps.length = qs.length → (∀ (k off sz : Nat) (v : AV), ps[k]? = some (off, sz, v) → ∃ (i : Nat) (c : Value), qs[k]? = some (i, c) ∧ place i = some (off, sz) ∧ VR m h w v c) →
    cells.length = cs.size → (∀ v ∈ cells, v.scalar = true) → (∀ (k : Nat) (v : AV), cells[k]? = some v → VR m h w v (cs.getD k undef)) → fillA cells ps = some out →
    ∃ ocs, Instr.fill place cs qs = some ocs ∧ out.length = ocs.size ∧ (∀ v ∈ out, v.scalar = true) ∧ (∀ (k : Nat) (v : AV), out[k]? = some v → VR m h w v (ocs.getD k undef))
  | [], qs, cells, cs, out, hl, _, hcl, hsc, hvr, ho => by
    cases qs with
    | nil => simp [fillA] at ho; subst ho; exact ⟨cs, rfl, hcl, hsc, hvr⟩
    | cons q qs => simp at hl
  | (off, sz, v) :: ps, qs, cells, cs, out, hl, hq, hcl, hsc, hvr, ho => by
    cases qs with
    | nil => simp at hl
    | cons q qs =>
      obtain ⟨i, c⟩ := q
      obtain ⟨i', c', hq0, hp, hv⟩ := hq 0 off sz v rfl
      simp at hq0
      obtain ⟨rfl, rfl⟩ := hq0
      simp only [fillA] at ho
      split at ho
      · rename_i hcond
        obtain ⟨h1, h2, h3⟩ := hcond
        have hvc := vr_cells hv (isTup_ne h3)
        have hcsz : c.cells.size = sz := by rw [← hvc.1]; exact h1
        obtain ⟨f1, f2⟩ := foldl_set off c.cells cs (by omega)
        have hput : (putC cells off v.cs).length = cells.length := by simp [putC]; omega
        obtain ⟨ocs, r1, r2, r3, r4⟩ := fill_ok place ps qs (putC cells off v.cs) (c.cells.zipIdx.foldl (fun (cs : Array Value) (p : Value × Nat) => cs.setIfInBounds (off + p.2) p.1) cs) out (by simpa using hl)
          (fun k o s u hk => by simpa using hq (k + 1) o s u hk) (by rw [f1, hput]; exact hcl)
          (fun u hu => by
            simp only [putC, List.mem_append] at hu
            rcases hu with (hu | hu) | hu
            · exact hsc u (List.mem_of_mem_take hu)
            · exact hvc.2.1 u hu
            · exact hsc u (List.mem_of_mem_drop hu))
          (fun k u hk => by
            rw [putC_get (by omega)] at hk
            rw [f2 k]
            by_cases hin : off ≤ k ∧ k < off + v.cs.length
            · rw [if_pos hin] at hk
              rw [if_pos (by omega)]
              exact hvc.2.2 _ u hk
            · rw [if_neg hin] at hk
              rw [if_neg (by omega)]
              exact hvr k u hk) ho
        refine ⟨ocs, ?_, r2, r3, r4⟩
        have hne : ¬ (c.cells.size ≠ sz ∨ off + c.cells.size > cs.size) := by omega
        simp only [Instr.fill, hp]
        rw [if_neg (by simpa using hne)]
        exact r1
      · cases ho

theorem evP_some {e : Env} {N : Nat} {g : Nat → Option (Nat × Nat)} (he : ER N m h w e a) : ∀ {ps : List (Nat × Operand)} {q : List (Nat × Nat × Opd)} {f : Nat × Operand → Option (Nat × Nat × Opd)},
    (∀ p off sz y, f p = some (off, sz, y) → g p.1 = some (off, sz) ∧ ofOpd N p.2 = some y) → ofL f ps = some q → ∀ {vs : List (Nat × Nat × AV)}, evP e q = some vs →
    vs.length = ps.length ∧ ∀ (k off sz : Nat) (v : AV), vs[k]? = some (off, sz, v) → ∃ i c, (ps.map fun (p : Nat × Operand) => (p.1, a.eval p.2))[k]? = some (i, c) ∧ g i = some (off, sz) ∧ VR m h w v c := by
  intro ps
  induction ps with
  | nil => intro q f _ hq vs hvs; simp [ofL] at hq; subst hq; simp [evP] at hvs; subst hvs; simp
  | cons p ps ih =>
    intro q f hf hq vs hvs
    simp only [ofL] at hq
    split at hq
    · rename_i y ys h1 h2
      cases hq
      obtain ⟨off, sz, y⟩ := y
      simp only [evP] at hvs
      split at hvs
      · rename_i v vs' g1 g2
        cases hvs
        obtain ⟨e1, e2⟩ := ih hf h2 g2
        obtain ⟨hp, ho⟩ := hf p off sz y h1
        refine ⟨by simp [e1], fun k off' sz' u hu => ?_⟩
        cases k with
        | zero => simp at hu; obtain ⟨rfl, rfl, rfl⟩ := hu; exact ⟨p.1, a.eval p.2, by simp, hp, he.eval ho g1⟩
        | succ k => simp at hu; simpa using e2 k off' sz' u hu
      · cases hvs
    · cases hq

theorem ok_build_struct (hr : HR m h w) (he : ER N m h w e a) {t : TypeId} {it : TypeInfo} {fs : Array Field} {z : Value} {zs : List AV} {ps : Array (Nat × Operand)} {q : List (Nat × Nat × Opd)} (hu : P.underlying t = some (.struct fs)) (hi : P.info? t = some it) (hz : it.zero = some z)
    (hzs : ofL ofV z.cells.toList = some zs) (hall : fs.toList.all (fun f => (P.info? f.type).isSome) = true)
    (hq : ofL (fun (p : Nat × Operand) => match fs[p.1]? with
          | some f => match P.info? f.type, ofOpd N p.2 with
            | some i, some x => some (f.offset, i.size, x)
            | _, _ => none
          | _ => none) ps.toList = some q) (ho : o.op = .build t ps)
    {r : Option AV} {f : Eff} (hv : evalI nm (.build zs q) e h.get = some (r, f)) : OpOK P o a m h w nm r f := by
  simp only [evalI] at hv
  split at hv
  · rename_i vs g1
    split at hv
    · rename_i cells g2
      cases hv
      obtain ⟨hzl, hzsc, hzv⟩ := ofL_ofV (m := m) (h := h) (w := w) hzs
      obtain ⟨places, hpl⟩ : ∃ places, fs.toList.mapM (fun f => (P.info? f.type).map fun i => (f.offset, i.size)) = some places := by
        have : ∀ (l : List Field), l.all (fun f => (P.info? f.type).isSome) = true → ∃ places, l.mapM (fun f => (P.info? f.type).map fun i => (f.offset, i.size)) = some places := by
          intro l
          induction l with
          | nil => intro _; exact ⟨[], rfl⟩
          | cons x l ih =>
            intro hx
            simp only [List.all_cons, Bool.and_eq_true] at hx
            obtain ⟨i, hi⟩ := Option.isSome_iff_exists.1 hx.1
            obtain ⟨pl, hpl⟩ := ih hx.2
            exact ⟨(x.offset, i.size) :: pl, by simp [List.mapM_cons, hi, hpl]⟩
        exact this _ hall
      have hget : ∀ (l : List Field) (pl : List (Nat × Nat)), l.mapM (fun f => (P.info? f.type).map fun i => (f.offset, i.size)) = some pl → ∀ (k : Nat) (f : Field) (i : TypeInfo), l[k]? = some f → P.info? f.type = some i → pl[k]? = some (f.offset, i.size) := by
        intro l
        induction l with
        | nil => intro pl _ k f i hk; simp at hk
        | cons x l ih =>
          intro pl hpl k f i hk hf
          simp only [List.mapM_cons, Option.bind_eq_bind, Option.pure_def] at hpl
          cases hx : P.info? x.type with
          | none => simp [hx] at hpl
          | some ix =>
            cases hr' : l.mapM (fun f => (P.info? f.type).map fun i => (f.offset, i.size)) with
            | none => simp [hx, hr'] at hpl
            | some rest =>
              simp [hx, hr'] at hpl
              subst hpl
              cases k with
              | zero => simp at hk; subst hk; rw [hx] at hf; cases hf; rfl
              | succ k => simp at hk; simpa using ih rest hr' k f i hk hf
      obtain ⟨e1, e2⟩ := evP_some (g := (places.toArray[·]?)) he (fun p off sz y hf => by
        split at hf
        · rename_i fd hfd
          split at hf
          · rename_i i x hi' hx
            cases hf
            refine ⟨?_, hx⟩
            have := hget fs.toList places hpl p.1 fd i (by simpa using hfd) hi'
            simpa using this
          · cases hf
        · cases hf) hq g1
      obtain ⟨ocs, r1, r2, r3, r4⟩ := fill_ok (m := m) (h := h) (w := w) (places.toArray[·]?) vs (ps.toList.map fun (p : Nat × Operand) => (p.1, a.eval p.2)) zs z.cells cells (by simp [e1]) e2 (by simpa using hzl) hzsc
        (fun k v hk => by have := hzv k v hk; simpa [Array.getD_eq_getD_getElem?, List.getD_eq_getElem?_getD] using this) g2
      refine OpOK.pure hr (cv := .agg ocs) ?_ (.agg _ _ r2 r3 r4)
      have hb : P.built t (ps.map fun (p : Nat × Operand) => (p.1, a.eval p.2)).toList = some ocs := by
        simp only [Program.built, hi, hu, hz, hpl]
        simpa using r1
      have := run_build (P := P) w t (ps.map fun (p : Nat × Operand) => (p.1, a.eval p.2)) ocs hb
      simp [execOp, ho, this]
    · cases hv
  · cases hv

theorem ok_build_array (hr : HR m h w) (he : ER N m h w e a) {t el : TypeId} {it ie : TypeInfo} {n : Nat} {z : Value} {zs : List AV} {ps : Array (Nat × Operand)} {q : List (Nat × Nat × Opd)} (hu : P.underlying t = some (.array n el)) (hi : P.info? t = some it) (hie : P.info? el = some ie) (hz : it.zero = some z)
    (hzs : ofL ofV z.cells.toList = some zs)
    (hq : ofL (fun (p : Nat × Operand) => match ofOpd N p.2 with
            | some x => some (p.1 * ie.size, ie.size, x)
            | _ => none) ps.toList = some q) (ho : o.op = .build t ps)
    {r : Option AV} {f : Eff} (hv : evalI nm (.build zs q) e h.get = some (r, f)) : OpOK P o a m h w nm r f := by
  simp only [evalI] at hv
  split at hv
  · rename_i vs g1
    split at hv
    · rename_i cells g2
      cases hv
      obtain ⟨hzl, hzsc, hzv⟩ := ofL_ofV (m := m) (h := h) (w := w) hzs
      obtain ⟨e1, e2⟩ := evP_some (g := fun i => some (i * ie.size, ie.size)) he (fun p off sz y hf => by
        split at hf
        · rename_i x hx
          cases hf
          exact ⟨rfl, hx⟩
        · cases hf) hq g1
      obtain ⟨ocs, r1, r2, r3, r4⟩ := fill_ok (m := m) (h := h) (w := w) (fun i => some (i * ie.size, ie.size)) vs (ps.toList.map fun (p : Nat × Operand) => (p.1, a.eval p.2)) zs z.cells cells (by simp [e1]) e2 (by simpa using hzl) hzsc
        (fun k v hk => by have := hzv k v hk; simpa [Array.getD_eq_getD_getElem?, List.getD_eq_getElem?_getD] using this) g2
      refine OpOK.pure hr (cv := .agg ocs) ?_ (.agg _ _ r2 r3 r4)
      have hb : P.built t (ps.map fun (p : Nat × Operand) => (p.1, a.eval p.2)).toList = some ocs := by
        simp only [Program.built, hi, hu, hz, hie]
        simpa using r1
      have := run_build (P := P) w t (ps.map fun (p : Nat × Operand) => (p.1, a.eval p.2)) ocs hb
      simp [execOp, ho, this]
    · cases hv
  · cases hv

/-! ### a literal slice, all its elements given -/
theorem fill_seq (size : Nat) : ∀ (qs : List (Nat × Value)) (s : Nat) (cells : Array Value), qs.map (·.1) = List.range' s qs.length → (∀ q ∈ qs, q.2.cells.size = size) → (s + qs.length) * size ≤ cells.size →
    ∃ out, Instr.fill (fun i => some (i * size, size)) cells qs = some out ∧ out.size = cells.size ∧ (∀ k, k < s * size → out.getD k undef = cells.getD k undef) ∧
      ∀ i q, qs[i]? = some q → ∀ j, j < size → out.getD ((s + i) * size + j) undef = q.2.cells.getD j undef
  | [], s, cells, _, _, _ => ⟨cells, rfl, rfl, fun _ _ => rfl, fun i q hq => by simp at hq⟩
  | (i0, v) :: qs, s, cells, hi, hs, hle => by
    simp only [List.map_cons, List.length_cons, List.range'_succ, List.cons.injEq] at hi
    obtain ⟨rfl, hi⟩ := hi
    have hv : v.cells.size = size := hs (i0, v) (by simp)
    have h1 : (i0 + 1) * size ≤ cells.size := Nat.le_trans (Nat.mul_le_mul_right _ (by simp)) hle
    rw [Nat.add_mul] at h1
    obtain ⟨f1, f2⟩ := foldl_set (i0 * size) v.cells cells (by omega)
    obtain ⟨out, r1, r2, r3, r4⟩ := fill_seq size qs (i0 + 1) _ hi (fun q hq => hs q (by simp [hq])) (by rw [f1]; simp only [List.length_cons] at hle; rwa [show i0 + 1 + qs.length = i0 + (qs.length + 1) by omega])
    refine ⟨out, ?_, r2.trans f1, fun k hk => ?_, fun i q hq j hj => ?_⟩
    · simp only [Instr.fill]
      rw [if_neg (by simp; omega)]
      exact r1
    · rw [r3 k (by rw [Nat.add_mul]; omega), f2 k, if_neg (by omega)]
    · cases i with
      | zero =>
        simp at hq
        subst hq
        rw [Nat.add_zero, r3 _ (by rw [Nat.add_mul]; omega), f2, if_pos (by omega)]
        congr 1
        omega
      | succ i =>
        simp at hq
        have := r4 i q hq j hj
        rwa [show i0 + (i + 1) = i0 + 1 + i by omega]

theorem cellsL_some {sz : Nat} : ∀ {vs : List AV} {c : List (List AV)}, cellsL sz vs = some c → c.length = vs.length ∧ ∀ (i : Nat) (v : AV), vs[i]? = some v → c[i]? = some v.cs ∧ v.cs.length = sz ∧ v.isTup = false := by
  intro vs
  induction vs with
  | nil => intro c hc; simp [cellsL] at hc; subst hc; simp
  | cons v vs ih =>
    intro c hc
    simp only [cellsL] at hc
    split at hc
    · rename_i hcond
      cases hr : cellsL sz vs with
      | none => simp [hr] at hc
      | some c' =>
        simp [hr] at hc
        subst hc
        obtain ⟨h1, h2⟩ := ih hr
        refine ⟨by simp [h1], fun i u hu => ?_⟩
        cases i with
        | zero => simp at hu; subst hu; exact ⟨by simp, hcond⟩
        | succ i => simp at hu; simpa using h2 i u hu
    · cases hc

theorem ok_bsl (hr : HR m h w) (he : ER N m h w e a) {t el : TypeId} {i : TypeInfo} {z : Value} {n : Nat} {ps : Array (Nat × Operand)} {xs : List Opd} (hu : P.underlying t = some (.slice el)) (hi : P.info? el = some i) (hz : i.zero = some z)
    (hxs : ofL (fun (p : Nat × Operand) => ofOpd N p.2) ps.toList = some xs) (hbig : n * i.size ≤ 2 ^ 24) (hn : 0 < n) (hsz : 0 < i.size) (hzs : z.cells.size = i.size) (hidx : ps.toList.map (·.1) = List.range n) (ho : o.op = .buildSlice t n ps)
    {r : Option AV} {f : Eff} (hv : evalI nm (.bsl i.size xs) e h.get = some (r, f)) : OpOK P o a m h w nm r f := by
  have ofL_map : ∀ (l : List (Nat × Operand)) {ys : List Opd}, ofL (fun (p : Nat × Operand) => ofOpd N p.2) l = some ys → ofL (ofOpd N) (l.map (·.2)) = some ys := by
    intro l
    induction l with
    | nil => intro ys hy; simpa [ofL] using hy
    | cons p l ih =>
      intro ys hy
      simp only [ofL] at hy
      split at hy
      · rename_i y ys' h1 h2
        cases hy
        simp [ofL, h1, ih h2]
      · cases hy
  simp only [evalI] at hv
  split at hv
  · rename_i vs g1
    split at hv
    · rename_i c g2
      cases hv
      obtain ⟨e1, e2⟩ := he.evalL (ofL_map _ hxs) g1
      obtain ⟨c1, c2⟩ := cellsL_some g2
      have hpl : ps.toList.length = n := by have := congrArg List.length hidx; simpa using this
      have hvl : vs.length = n := by simp at e1; simpa [e1] using hpl
      have key : ∀ (k : Nat) (v : AV), vs[k]? = some v → ∃ p : Nat × Operand, ps.toList[k]? = some p ∧ VR m h w v (a.eval p.2) ∧ v.cs.length = i.size ∧ v.isTup = false ∧ c[k]? = some v.cs := by
        intro k v hk
        have hlt : k < ps.toList.length := by rw [hpl, ← hvl]; exact (List.getElem?_eq_some_iff.1 hk).1
        refine ⟨ps.toList[k], List.getElem?_eq_getElem hlt, ?_, (c2 k v hk).2.1, (c2 k v hk).2.2, (c2 k v hk).1⟩
        have := e2 k v hk
        simpa [List.getD_eq_getElem?_getD, List.getElem?_eq_getElem hlt, List.getElem?_map] using this
      obtain ⟨out, r1, r2, r3, r4⟩ := fill_seq i.size (ps.toList.map fun (p : Nat × Operand) => (p.1, a.eval p.2)) 0 ((Array.range (n * i.size)).map (z.cells[· % z.cells.size]!))
        (by simp only [List.map_map, List.length_map, hpl]; rw [show ((fun x : Nat × Value => x.1) ∘ fun p : Nat × Operand => (p.1, a.eval p.2)) = (·.1) from rfl, hidx, List.range_eq_range'])
        (fun q hq => by
          obtain ⟨k, hk, rfl⟩ := List.mem_iff_getElem.1 hq
          simp only [List.length_map] at hk
          have hkv : k < vs.length := by omega
          obtain ⟨p, hp, hvr, hl, ht, _⟩ := key k vs[k] (List.getElem?_eq_getElem hkv)
          have := (vr_cells hvr (isTup_ne ht)).1
          have hp' : ps.toList[k] = p := by simpa [List.getElem?_eq_getElem hk] using hp
          simp only [List.getElem_map, hp']
          omega)
        (by simp [hpl])
      have hne : ¬ (n * i.size = 0) := by have := Nat.mul_pos hn hsz; omega
      refine ⟨m, w.alloc (.cells out el), hr.alloc _, step_alloc hr _, .slice (some ⟨w.heap.size, 0, none⟩) n n, ?_, ?_⟩
      · have hbig' : ¬ (16777216 < n * i.size) := by simp at hbig; omega
        have r1' := r1
        simp only [execOp, ho, Instr.buildSlice, Sem.run_bind, Sem.run_pure, Result.andThen_ok, run_underlying hu, run_sizeOf' hi, zeroValue, run_typeInfo' hi, hz]
        simp only [show (2 : Nat) ^ 24 = 16777216 from rfl, gt_iff_lt, hbig', if_false, hne, Sem.run_bind, Sem.run_pure, Result.andThen_ok, run_typeInfo' hi, hz]
        have hmap : (ps.map fun (x : Nat × Operand) => (x.1, a.eval x.2)).toList = ps.toList.map fun (p : Nat × Operand) => (p.1, a.eval p.2) := by simp
        rw [hmap, r1']
        simp [newRow]
      · have st := step_alloc hr (.cells out el)
        have hcl : c.length = n := by omega
        have hmem : ∀ x ∈ c, ∃ (k : Nat) (v : AV), vs[k]? = some v ∧ x = v.cs := by
          intro x hx
          obtain ⟨k, hk, rfl⟩ := List.mem_iff_getElem.1 hx
          have hkv : k < vs.length := by omega
          have := (c2 k _ (List.getElem?_eq_getElem hkv)).1
          exact ⟨k, vs[k], List.getElem?_eq_getElem hkv, by rw [List.getElem?_eq_getElem hk] at this; simpa using this⟩
        have := VR.imm (m := m) (h := h) (w := w.alloc (.cells out el)) i.size c w.heap.size 0 n (fun k => out.getD k undef) (fun k hk => ⟨?_, ?_⟩) (fun x hx => ?_) (fun x hx => ?_) (fun k cells hk j u hj => ?_) (by omega)
        · rwa [hcl] at this
        · rw [Nat.zero_add, World.cell?_alloc_new]
          have hlt : k < out.size := by rw [r2]; simp; rw [hcl] at hk; exact hk
          simp [Array.getD_eq_getD_getElem?, hlt]
        · rintro ⟨id, t', ⟨x, hx⟩, hmx, _⟩
          have := (hr.obj id x hx).lt hmx
          omega
        · obtain ⟨k, v, hk, rfl⟩ := hmem x hx
          exact (c2 k v hk).2.1
        · obtain ⟨k, v, hk, rfl⟩ := hmem x hx
          obtain ⟨p, hp, hvr, _, ht, _⟩ := key k v hk
          exact (vr_cells hvr (isTup_ne ht)).2.1
        · have hkl : k < vs.length := by have := (List.getElem?_eq_some_iff.1 hk).1; omega
          obtain ⟨p, hp, hvr, hl, ht, hck⟩ := key k vs[k] (List.getElem?_eq_getElem hkl)
          rw [hk] at hck
          cases hck
          have hjl : j < i.size := by rw [← hl]; exact (List.getElem?_eq_some_iff.1 hj).1
          have := r4 k (p.1, a.eval p.2) (by simp [hp]) j hjl
          rw [Nat.zero_add] at this
          rw [this]
          exact ((vr_cells hvr (isTup_ne ht)).2.2 j u hj).step st
    · cases hv
  · cases hv

theorem ok_mksl (hr : HR m h w) (hf : ¬ h.used nm) (he : ER N m h w e a) {t el : TypeId} {i : TypeInfo} {z : Value} {zs : List AV} (hu : P.underlying t = some (.slice el)) (hi : P.info? el = some i) (hz : i.zero = some z) (hzs : ofL ofV z.cells.toList = some zs) (hb : 0 < i.bytes) (hsz : 0 < i.size) (hzz : z.cells.size = i.size)
    {x y : Operand} {x' y' : Opd} (ho : o.op = .makeSlice t x y) (h1 : ofOpd N x = some x') (h2 : ofOpd N y = some y')
    {r : Option AV} {f : Eff} (hv : evalI nm (.mksl i.size zs i.bytes x' y') e h.get = some (r, f)) : OpOK P o a m h w nm r f := by
  simp only [evalI] at hv
  split at hv
  · rename_i k n k' n' g1 g2
    obtain ⟨⟨h0, rfl, hbig⟩, hv'⟩ := req_some hv
    cases hv'
    have e1 := vr_int (he.eval h1 g1)
    have e2 := vr_int (he.eval h2 g2)
    obtain ⟨hzl, hzsc, hzv⟩ := ofL_ofV (m := m) (h := h) (w := w) hzs
    have hzl' : zs.length = i.size := by simpa [hzz] using hzl
    have hn63 : n ≤ 140737488355328 := by
      have h2 : n * 1 ≤ n * (i.bytes : Int) := Int.mul_le_mul_of_nonneg_left (by omega) h0
      omega
    have hrun := run_make (P := P) w t el i z hu hi hz k k' n n h0 (Int.le_refl _) (by rw [Int.mul_comm]; omega) (by omega)
    have hrow : RowF m h w i.size (List.replicate n.toNat zs) (fun k => (madeCells z.cells (n.toNat * i.size)).getD k undef) := by
      refine ⟨fun x hx => by rw [List.eq_of_mem_replicate hx]; exact hzl', fun x hx => by rw [List.eq_of_mem_replicate hx]; exact hzsc, fun q cells hq j v hj => ?_⟩
      have hql : q < n.toNat := by simpa using (List.getElem?_eq_some_iff.1 hq).1
      have hc : cells = zs := List.eq_of_mem_replicate (List.mem_of_getElem? hq)
      subst hc
      have hjl : j < i.size := by rw [← hzl']; exact (List.getElem?_eq_some_iff.1 hj).1
      have hlt := idx_lt hql hjl
      have := hzv j v hj
      simp only [madeCells, Array.getD_eq_getD_getElem?]
      rw [Array.getElem?_map, Array.getElem?_range, if_pos hlt]
      simp only [Option.map_some, Option.getD_some]
      have hmod : (q * i.size + j) % z.cells.size = j := by rw [hzz, Nat.mul_comm, Nat.mul_add_mod, Nat.mod_eq_of_lt hjl]
      rw [hmod]
      simpa [List.getD_eq_getElem?_getD, Array.getElem?_eq_getElem (show j < z.cells.size by omega), getElem!_pos z.cells j (by omega)] using this
    obtain ⟨hr', st⟩ := new_row (nm := nm) (T := el) hr hf (by rw [size_madeCells]; simp) hrow
    refine ⟨_, _, hr', st, .slice (some ⟨w.heap.size, 0, none⟩) n.toNat n.toNat, by simp [execOp, ho, e1, e2, hrun], .ref _ _ _ _ _ put_used_nm (Nat.le_refl _) fun sz c hg => ?_⟩
    simp only [Eff.on, AHeap.put, if_true, Option.some.injEq, AObj.mem.injEq] at hg
    obtain ⟨rfl, rfl⟩ := hg
    exact ⟨w.heap.size, by simp [upd], by simp, .inr (by simp), _, el, heap_alloc_new w _, by rw [size_madeCells]; simp⟩
  · cases hv
end
end Go.Abs
