/- The abstract layer, part 9: bytes as text, comparisons. -/
import Derived.Test.YtlddahcgaonlhaaA8
set_option linter.all false
namespace Go.Abs
open Go

section
variable {P : Program} {N : Nat} {m : Inj} {h : AHeap} {w : World} {e : Env} {a : Act} {nm : Nat} {o : Oper}

theorem toB_some : ∀ {c : List (List AV)} {l : List UInt8}, toB c = some l → ∃ ns : List Int, c = ns.map (fun n => [AV.int .u8 n]) ∧ l = ns.map (fun n => UInt8.ofNat n.toNat)
  | [], l, hc => by simp [toB] at hc; subst hc; exact ⟨[], rfl, rfl⟩
  | x :: r, l, hc => by
    unfold toB at hc
    split at hc
    · rename_i heq; cases heq
    · rename_i n r' heq
      cases heq
      cases hr : toB r with
      | none => simp [hr] at hc
      | some l' =>
        simp [hr] at hc
        subst hc
        obtain ⟨ns, rfl, rfl⟩ := toB_some hr
        exact ⟨n :: ns, rfl, rfl⟩
    · cases hc

theorem ok_b2s (hr : HR m h w) (he : ER N m h w e a) {s d el : TypeId} (hs : P.underlying s = some (.slice el)) (hd : P.underlying d = some .string) (hel : P.underlying el = some (.int .u8)) {x : Operand} {x' : Opd} (ho : o.op = .convert s d x) (h1 : ofOpd N x = some x')
    {r : Option AV} {f : Eff} (hv : evalI nm (.b2s x') e h.get = some (r, f)) : OpOK P o a m h w nm r f := by
  simp only [evalI] at hv
  split at hv
  · rename_i y g1
    split at hv
    · rename_i c g2
      split at hv
      · rename_i l g3
        cases hv
        obtain ⟨ad, cap, hx, hcap, F, hrow, hcell⟩ := rdS_vr hr (he.eval h1 g1) g2
        obtain ⟨ns, rfl, rfl⟩ := toB_some g3
        refine OpOK.pure hr ?_ (.str _)
        by_cases hne : ns = []
        · subst hne
          simp only [execOp, ho, hx, List.map_nil, List.length_nil]
          cases ad with
          | none => simp [run_convert_bytes_nil w s el hs hel 0 cap d hd]; rfl
          | some ad =>
            have := run_convert_bytes_string (P := P) w s d el (some ad) 0 cap hs hel hd
            simp [this, Conv.bytesToString, loadCells, loadCellsFrom]
            rfl
        · obtain ⟨b, o', rfl, hc⟩ := hcell (by simpa using hne)
          have := run_convert_bytes_arg (P := P) w s el hs hel b o' (ns.map (fun n => [AV.int .u8 n])).length cap ns (by simp) (fun i hi => by
            simp only [List.length_map] at hi
            rw [hc i (by simpa using hi)]
            have := hrow.2.2 i [AV.int .u8 ns[i]] (by simp [hi]) 0 _ rfl
            have := vr_int this
            simp only [Nat.mul_one, Nat.add_zero] at this
            rw [this]
            simp [List.getD_eq_getElem?_getD, hi]) d hd
          simp [execOp, ho, hx] at this ⊢
          simp [this]
          rfl
      · cases hv
    · cases hv
  · cases hv

theorem run_eq_slice_nil {t el : TypeId} (ht : P.underlying t = some (.slice el)) (d : Nat) (ad : Addr) (l c : Nat) : (Op.equalIn (d + 1) t (.slice (some ad) l c) (.slice none 0 0)).run P w = .ok false w := by
  simp [Op.equalIn, run_underlying ht]
theorem run_eq_ptr_nil {t el : TypeId} (ht : P.underlying t = some (.pointer el)) (d : Nat) (z : Option Addr) : (Op.equalIn (d + 1) t (.pointer z) (.pointer none)).run P w = .ok z.isNone w := by
  cases z <;> simp [Op.equalIn, run_underlying ht]
theorem run_eq_func_nil {t : TypeId} {a1 a2 : Array TypeId} {a3 : Bool} (ht : P.underlying t = some (.func a1 a2 a3)) (d : Nat) (fn : Fn) (c1 c2 : Array Value) : (Op.equalIn (d + 1) t (.func fn c1 c2) .nilFunc).run P w = .ok false w := by
  simp [Op.equalIn, run_underlying ht]
theorem run_eq_nil_nil {t : TypeId} {a1 a2 : Array TypeId} {a3 : Bool} (ht : P.underlying t = some (.func a1 a2 a3)) (d : Nat) : (Op.equalIn (d + 1) t .nilFunc .nilFunc).run P w = .ok true w := by
  simp [Op.equalIn, run_underlying ht]

theorem ok_isnil (hr : HR m h w) (he : ER N m h w e a) {op : BinOp} {neg : Bool} (hop : op = .eql ∧ neg = false ∨ op = .neq ∧ neg = true) {t u el : TypeId} (ht : P.underlying t = some (.slice el)) {x : Operand} {x' : Opd} (ho : o.op = .binOp op t x (.const (.slice none 0 0)) u) (h1 : ofOpd N x = some x')
    {r : Option AV} {f : Eff} (hv : evalI nm (.isnil neg x') e h.get = some (r, f)) : OpOK P o a m h w nm r f := by
  simp only [evalI] at hv
  split at hv
  · rename_i y g1
    split at hv
    · rename_i q g2
      cases hv
      have key : q = false ∧ ∃ ad l c, a.eval x = .slice (some ad) l c := by
        have e1 := he.eval h1 g1
        generalize a.eval x = cx at e1 ⊢
        unfold isNilA at g2
        split at g2 <;> cases g2 <;> refine ⟨rfl, ?_⟩
        · cases e1 with
          | imm => exact ⟨_, _, _, rfl⟩
        · cases e1 with
          | app => exact ⟨_, _, _, rfl⟩
        · cases e1 with
          | ref => exact ⟨_, _, _, rfl⟩
      obtain ⟨rfl, ad, l, c, hx⟩ := key
      have heq : (Op.equal t (.slice (some ad) l c) (.slice none 0 0)).run P w = .ok false w := run_eq_slice_nil ht 9999 ad l c
      have hy : a.eval (.const (.slice none 0 0)) = .slice none 0 0 := rfl
      refine OpOK.pure hr (cv := .bool neg) ?_ (by cases neg <;> exact .bool _)
      rcases hop with ⟨rfl, rfl⟩ | ⟨rfl, rfl⟩
      · simp [execOp, ho, hx, hy, eqGuard_at_slice, binOp, heq]
      · simp [execOp, ho, hx, hy, eqGuard_at_slice, binOp, heq]
    · cases hv
  · cases hv

/-! ### comparing cell by cell -/
theorem eqCells_len : ∀ {ks : List CK} {us vs : List AV} {r : Bool}, eqCells ks us vs = some r → us.length = ks.length ∧ vs.length = ks.length
  | [], us, vs, r, hq => by
    cases us <;> cases vs <;> simp [eqCells] at hq
    exact ⟨rfl, rfl⟩
  | k :: ks, us, vs, r, hq => by
    cases us with
    | nil => cases k <;> simp [eqCells] at hq
    | cons u us =>
      cases vs with
      | nil => cases k <;> cases u <;> simp [eqCells] at hq
      | cons v vs =>
        have step : ∀ (t : Bool), (eqCells ks us vs).map (fun r => t && r) = some r → us.length = ks.length ∧ vs.length = ks.length := by
          intro t ht
          cases hr : eqCells ks us vs with
          | none => simp [hr] at ht
          | some r' => exact eqCells_len hr
        have fin : us.length = ks.length ∧ vs.length = ks.length := by
          cases k <;> cases u <;> cases v <;> simp only [eqCells] at hq <;> try (cases hq; done)
          · split at hq
            · exact step _ hq
            · cases hq
          · exact step _ hq
          · exact step _ hq
        simp [fin.1, fin.2]

theorem eqCells_split : ∀ (k1 : List CK) {k2 : List CK} {us vs : List AV} {r : Bool}, eqCells (k1 ++ k2) us vs = some r →
    ∃ r1 r2, eqCells k1 (us.take k1.length) (vs.take k1.length) = some r1 ∧ eqCells k2 (us.drop k1.length) (vs.drop k1.length) = some r2 ∧ r = (r1 && r2)
  | [], k2, us, vs, r, hq => ⟨true, r, by simp [eqCells], by simpa using hq, by simp⟩
  | k :: k1, k2, us, vs, r, hq => by
    cases us with
    | nil => cases k <;> simp [eqCells] at hq
    | cons u us =>
      cases vs with
      | nil => cases k <;> cases u <;> simp [eqCells] at hq
      | cons v vs =>
        have step : ∀ (t : Bool), (eqCells (k1 ++ k2) us vs).map (fun r => t && r) = some r → ∃ r1 r2, (eqCells k1 (us.take k1.length) (vs.take k1.length)).map (fun r => t && r) = some r1 ∧ eqCells k2 (us.drop k1.length) (vs.drop k1.length) = some r2 ∧ r = (r1 && r2) := by
          intro t ht
          cases hr : eqCells (k1 ++ k2) us vs with
          | none => simp [hr] at ht
          | some r' =>
            simp [hr] at ht
            obtain ⟨r1, r2, e1, e2, e3⟩ := eqCells_split k1 hr
            exact ⟨t && r1, r2, by simp [e1], e2, by rw [← ht, e3, Bool.and_assoc]⟩
        cases k <;> cases u <;> cases v <;> simp only [List.cons_append, eqCells] at hq <;> try (cases hq; done)
        · split at hq
          · rename_i hk
            obtain ⟨r1, r2, e1, e2, e3⟩ := step _ hq
            exact ⟨r1, r2, by simp only [List.length_cons, List.take_succ_cons, eqCells, hk, if_true]; exact e1, by simpa using e2, e3⟩
          · cases hq
        · obtain ⟨r1, r2, e1, e2, e3⟩ := step _ hq
          exact ⟨r1, r2, by simp only [List.length_cons, List.take_succ_cons, eqCells]; exact e1, by simpa using e2, e3⟩
        · obtain ⟨r1, r2, e1, e2, e3⟩ := step _ hq
          exact ⟨r1, r2, by simp only [List.length_cons, List.take_succ_cons, eqCells]; exact e1, by simpa using e2, e3⟩

/-- Real cells that read as the abstract ones. -/
def CR (m : Inj) (h : AHeap) (w : World) (us : List AV) (xs : Array Value) : Prop := us.length = xs.size ∧ ∀ i v, us[i]? = some v → VR m h w v (xs.getD i undef)

theorem CR.sub {us : List AV} {xs : Array Value} (hc : CR m h w us xs) (off sz : Nat) (hle : off + sz ≤ us.length) : CR m h w ((us.drop off).take sz) (xs.extract off (off + sz)) := by
  have hl := hc.1
  refine ⟨by simp; omega, fun i v hi => ?_⟩
  rw [List.getElem?_take] at hi
  split at hi
  · rename_i hlt
    rw [List.getElem?_drop] at hi
    have := hc.2 _ v hi
    have e1 : off + i < xs.size := by omega
    simpa [Array.getD_eq_getD_getElem?, Array.getElem?_extract, show i < min (off + sz) xs.size - off by omega, e1] using this
  · cases hi

/-- What is said of a type's values: their cells decide. -/
def EqT (P : Program) (m : Inj) (h : AHeap) (w : World) (d : Nat) (t : TypeId) (ks : List CK) : Prop :=
  ∀ D, (∀ us vs xs ys r, aggD ((P.underlying t).getD .invalid) = true → CR m h w us xs → CR m h w vs ys → eqCells ks us vs = some r → (Op.equalIn (D + d) t (.agg xs) (.agg ys)).run P w = .ok r w) ∧
    (∀ u v x y r, aggD ((P.underlying t).getD .invalid) = false → VR m h w u x → VR m h w v y → eqCells ks [u] [v] = some r → (Op.equalIn (D + d) t x y).run P w = .ok r w)

theorem tyI_agg {t : TypeId} {sz : Nat} {ag : Bool} (ht : tyI P t = some (sz, ag)) : aggD ((P.underlying t).getD .invalid) = ag := by
  unfold tyI at ht
  split at ht
  · rename_i i d h1 h2; cases ht; simp [h2]
  · cases ht

/-- A part of two rows of cells, compared. -/
theorem EqT.part {d : Nat} {t : TypeId} {ks : List CK} (he : EqT P m h w d t ks) {sz : Nat} {ag : Bool} (ht : tyI P t = some (sz, ag)) (hag : ag = true ∨ sz = 1) (D : Nat) {us vs : List AV} {xs ys : Array Value} {off : Nat} {r : Bool} (hx : CR m h w us xs) (hy : CR m h w vs ys) (hu : off + sz ≤ us.length) (hv : off + sz ≤ vs.length)
    (hq : eqCells ks ((us.drop off).take sz) ((vs.drop off).take sz) = some r) :
    ∃ pa pb, (part t xs off).run P w = .ok pa w ∧ (part t ys off).run P w = .ok pb w ∧ (Op.equalIn (D + d) t pa pb).run P w = .ok r w := by
  obtain ⟨hsz, hagg⟩ := tyI_some ht
  have hat := tyI_agg ht
  cases ag with
  | true =>
    exact ⟨_, _, by simp [Go.part, hagg, hsz], by simp [Go.part, hagg, hsz], (he D).1 _ _ _ _ r hat (hx.sub off sz hu) (hy.sub off sz hv) hq⟩
  | false =>
    have h10 : sz = 1 := by simpa using hag
    subst h10
    have hxl : off < xs.size := by rw [← hx.1]; omega
    have hyl : off < ys.size := by rw [← hy.1]; omega
    have g1 : (us.drop off).take 1 = [us[off]'(by omega)] := by rw [List.drop_eq_getElem_cons (by omega)]; rfl
    have g2 : (vs.drop off).take 1 = [vs[off]'(by omega)] := by rw [List.drop_eq_getElem_cons (by omega)]; rfl
    rw [g1, g2] at hq
    have v1 := hx.2 off _ (List.getElem?_eq_getElem (by omega))
    have v2 := hy.2 off _ (List.getElem?_eq_getElem (by omega))
    refine ⟨xs[off], ys[off], by simp [Go.part, hagg, hxl], by simp [Go.part, hagg, hyl], (he D).2 _ _ _ _ r hat ?_ ?_ hq⟩
    · simpa [Array.getD_eq_getD_getElem?, hxl] using v1
    · simpa [Array.getD_eq_getD_getElem?, hyl] using v2

theorem eqFields_ok {d D : Nat} {flat : TypeId → Option (List CK)} (hflat : ∀ t ks, flat t = some ks → EqT P m h w d t ks) : ∀ (fs : List Field) (o : Nat) {ks : List CK} {us vs : List AV} {xs ys : Array Value} {r : Bool}, flatF flat P o fs = some ks → CR m h w us xs → CR m h w vs ys → o ≤ us.length → o ≤ vs.length →
    eqCells ks (us.drop o) (vs.drop o) = some r → (Op.eqFields (D + d) xs ys fs).run P w = .ok r w
  | [], o, ks, us, vs, xs, ys, r, hf, hx, hy, _, _, hq => by
    simp [flatF] at hf
    subst hf
    cases hu : us.drop o <;> cases hv : vs.drop o <;> simp [hu, hv, eqCells] at hq
    subst hq
    simp [Op.eqFields]
  | f :: fs, o, ks, us, vs, xs, ys, r, hf, hx, hy, hou, hov, hq => by
    simp only [flatF] at hf
    split at hf
    · rename_i k1 sz ag g1 g2
      split at hf
      · rename_i hcond
        obtain ⟨hname, rfl, hlen, hag⟩ := hcond
        cases hr : flatF flat P (f.offset + sz) fs with
        | none => simp [hr] at hf
        | some k2 =>
          simp [hr] at hf
          subst hf
          have hL := eqCells_len hq
          simp only [List.length_append, List.length_drop] at hL
          obtain ⟨r1, r2, e1, e2, rfl⟩ := eqCells_split k1 hq
          rw [hlen] at e1 e2
          simp only [List.drop_drop] at e2
          obtain ⟨pa, pb, p1, p2, p3⟩ := (hflat _ _ g1).part g2 hag D hx hy (by omega) (by omega) e1
          have ih := eqFields_ok (D := D) hflat fs (f.offset + sz) hr hx hy (by omega) (by omega) e2
          simp only [Op.eqFields, ne_eq, hname, not_false_eq_true, if_true, Sem.run_bind, p1, p2, p3, Result.andThen_ok]
          cases r1
          · simp
          · simp [ih]
      · cases hf
    · cases hf

theorem eqArray_ok {d D : Nat} {el : TypeId} {ks : List CK} (he : EqT P m h w d el ks) {sz : Nat} {ag : Bool} (ht : tyI P el = some (sz, ag)) (hag : ag = true ∨ sz = 1) (hlen : ks.length = sz) : ∀ (n s : Nat) {us vs : List AV} {xs ys : Array Value} {r : Bool}, CR m h w us xs → CR m h w vs ys → s * sz ≤ us.length → s * sz ≤ vs.length →
    eqCells (flatN ks n) (us.drop (s * sz)) (vs.drop (s * sz)) = some r →
    (forIn (List.range' s n) ((none, ()) : Option Bool × Unit) fun i _ => do
        let pa ← part el xs (i * sz)
        let pb ← part el ys (i * sz)
        let q ← Op.equalIn (D + d) el pa pb
        if (!q) = true then pure (ForInStep.done (some false, ())) else pure (ForInStep.yield (none, ())) : Sem (Option Bool × Unit)).run P w = .ok (if r then (none, ()) else (some false, ())) w
  | 0, s, us, vs, xs, ys, r, hx, hy, hou, hov, hq => by
    simp only [flatN] at hq
    cases hu : us.drop (s * sz) <;> cases hv : vs.drop (s * sz) <;> simp [hu, hv, eqCells] at hq
    subst hq
    simp
  | n + 1, s, us, vs, xs, ys, r, hx, hy, hou, hov, hq => by
    simp only [flatN] at hq
    have hL := eqCells_len hq
    simp only [List.length_append, List.length_drop] at hL
    obtain ⟨r1, r2, e1, e2, rfl⟩ := eqCells_split ks hq
    rw [hlen] at e1 e2
    simp only [List.drop_drop] at e2
    rw [show s * sz + sz = (s + 1) * sz by rw [Nat.add_mul]; omega] at e2
    obtain ⟨pa, pb, p1, p2, p3⟩ := he.part ht hag D hx hy (by omega) (by omega) e1
    have ih := eqArray_ok (D := D) he ht hag hlen n (s + 1) hx hy (by rw [Nat.add_mul]; omega) (by rw [Nat.add_mul]; omega) e2
    simp only [List.range'_succ, List.forIn_cons, Sem.run_bind, p1, p2, p3, Result.andThen_ok]
    cases r1
    · simp
    · simp only [Bool.not_true, Bool.false_eq_true, if_false, Sem.run_pure, Result.andThen_ok, Bool.true_and]
      exact ih

theorem flatK_ok : ∀ (d : Nat) {t : TypeId} {ks : List CK}, flatK P d t = some ks → EqT P m h w d t ks
  | 0, t, ks, hk => by simp [flatK] at hk
  | d + 1, t, ks, hk => by
    intro D
    have ih : ∀ t ks, flatK P d t = some ks → EqT P m h w d t ks := fun t ks hk => flatK_ok d hk
    unfold flatK at hk
    split at hk
    · rename_i k hu
      cases hk
      refine ⟨fun _ _ _ _ _ ha => by simp [hu, aggD] at ha, fun u v x y r _ hx hy hq => ?_⟩
      cases u <;> cases v <;> simp [eqCells] at hq
      obtain ⟨rfl, rfl⟩ := hq
      rw [vr_int hx, vr_int hy]
      exact run_equalIn_int w (D + d) t _ _ _ _ hu
    · rename_i hu
      cases hk
      refine ⟨fun _ _ _ _ _ ha => by simp [hu, aggD] at ha, fun u v x y r _ hx hy hq => ?_⟩
      cases u <;> cases v <;> simp [eqCells] at hq
      subst hq
      rw [vr_bool hx, vr_bool hy]
      exact run_equalIn_bool' w (D + d) t _ _ hu
    · rename_i hu
      cases hk
      refine ⟨fun _ _ _ _ _ ha => by simp [hu, aggD] at ha, fun u v x y r _ hx hy hq => ?_⟩
      cases u <;> cases v <;> simp [eqCells] at hq
      subst hq
      cases hx
      cases hy
      have := run_equalIn_string (P := P) w (D + d) t ⟨‹List UInt8›.toArray⟩ ⟨‹List UInt8›.toArray⟩ hu
      rename_i s1 s2
      have e := run_equalIn_string (P := P) w (D + d) t ⟨s1.toArray⟩ ⟨s2.toArray⟩ hu
      simpa [ByteArray.toList_eq, Nat.add_assoc] using e
    · rename_i fs hu
      split at hk
      · rename_i hst
        refine ⟨fun us vs xs ys r _ hx hy hq => ?_, fun _ _ _ _ _ ha => by simp [hu, aggD] at ha⟩
        have hfo : P.fieldsOf t = fs := by simp [Program.fieldsOf, hu]
        rw [show D + (d + 1) = (D + d) + 1 by omega, run_equalIn_struct w (D + d) t xs ys (by rw [hfo]; exact hu) hst, hfo]
        exact eqFields_ok ih fs.toList 0 hk hx hy (Nat.zero_le _) (Nat.zero_le _) (by simpa using hq)
      · cases hk
    · rename_i n el hu
      split at hk
      · rename_i k1 sz ag g1 g2
        split at hk
        · rename_i hcond
          cases hk
          refine ⟨fun us vs xs ys r _ hx hy hq => ?_, fun _ _ _ _ _ ha => by simp [hu, aggD] at ha⟩
          have := eqArray_ok (D := D) (ih _ _ g1) g2 hcond.2 hcond.1 n 0 hx hy (by simp) (by simp) (by simpa using hq)
          rw [show D + (d + 1) = (D + d) + 1 by omega]
          simp only [Op.equalIn, Sem.run_bind, run_underlying hu, Result.andThen_ok, (tyI_some g2).1]
          simp only [Std.Legacy.Range.forIn_eq_forIn_range', Std.Legacy.Range.size, Nat.sub_zero, Nat.add_one_sub_one, Nat.div_one]
          rw [this]
          cases r <;> simp
        · cases hk
      · cases hk
    · cases hk

theorem agg_case {op : BinOp} {neg : Bool} (hop : op = .eql ∧ neg = false ∨ op = .neq ∧ neg = true) {t : TypeId} {x y : Operand} {k : EK} {p q : AV} {b : Bool} {cx cy : Value} (hu : aggD ((P.underlying t).getD .invalid) = true)
    (hk : (if P.eqGuardType P.depth t = false then (flatK P 5 t).map .a else none) = some k) (g3 : eqA k p q = some b) (e1 : VR m h w p cx) (e2 : VR m h w q cy) :
    (eqGuard op t x y cx cy).run P w = .ok () w ∧ (binOp op t cx cy).run P w = .ok (.bool (if neg then !b else b)) w := by
  split at hk
  · rename_i hg
    cases hf : flatK P 5 t with
    | none => simp [hf] at hk
    | some ks =>
      simp [hf] at hk
      subst hk
      cases p <;> cases q <;> simp only [eqA] at g3 <;> try (cases g3; done)
      cases e1 with
      | agg us xs l1 s1 v1 =>
        cases e2 with
        | agg vs ys l2 s2 v2 =>
          have hq := ((flatK_ok (P := P) (m := m) (h := h) (w := w) 5 hf) 9995).1 _ _ xs ys b hu ⟨l1, v1⟩ ⟨l2, v2⟩ g3
          have heq : (Op.equal t (.agg xs) (.agg ys)).run P w = .ok b w := hq
          refine ⟨run_eqGuard_agg w op t x y xs ys hg, ?_⟩
          rcases hop with ⟨rfl, rfl⟩ | ⟨rfl, rfl⟩ <;> simp [binOp, heq]
  · cases hk

theorem ok_eqv (hr : HR m h w) (he : ER N m h w e a) {op : BinOp} {neg : Bool} (hop : op = .eql ∧ neg = false ∨ op = .neq ∧ neg = true) {t u : TypeId} {x y : Operand} {x' y' : Opd} {k : EK} (hk : eqKind P t y = some k) (ho : o.op = .binOp op t x y u) (h1 : ofOpd N x = some x') (h2 : ofOpd N y = some y')
    {r : Option AV} {f : Eff} (hv : evalI nm (.eqv k neg x' y') e h.get = some (r, f)) : OpOK P o a m h w nm r f := by
  simp only [evalI] at hv
  split at hv
  · rename_i p q g1 g2
    split at hv
    · rename_i b g3
      cases hv
      have e1 := he.eval h1 g1
      have e2 := he.eval h2 g2
      suffices hs : (eqGuard op t x y (a.eval x) (a.eval y)).run P w = .ok () w ∧ (binOp op t (a.eval x) (a.eval y)).run P w = .ok (.bool (if neg then !b else b)) w by
        exact OpOK.pure hr (cv := .bool (if neg then !b else b)) (by simp [execOp, ho, hs.1, hs.2]) (.bool _)
      unfold eqKind at hk
      split at hk
      · rename_i hu
        cases hk
        cases p <;> cases q <;> simp [eqA] at g3
        subst g3
        rw [vr_bool e1, vr_bool e2]
        have heq : ∀ a b, (Op.equal t (.bool a) (.bool b)).run P w = .ok (a == b) w := fun a b => run_equalIn_bool' w 9999 t a b hu
        rcases hop with ⟨rfl, rfl⟩ | ⟨rfl, rfl⟩ <;> simp [eqGuard_at_bool, binOp, heq]
      · rename_i hu
        cases hk
        cases p <;> cases q <;> simp [eqA] at g3
        subst g3
        generalize a.eval x = cx at e1 ⊢
        generalize a.eval y = cy at e2 ⊢
        cases e1
        cases e2
        rcases hop with ⟨rfl, rfl⟩ | ⟨rfl, rfl⟩ <;> simp [eqGuard_at_string, binOp, Op.stringOp, ByteArray.toList_eq, bne]
      · rename_i el hu
        split at hk
        · cases hk
          have hb : b = false ∧ (∃ ad, a.eval x = .pointer (some ad)) ∨ b = true ∧ a.eval x = .pointer none := by
            generalize a.eval x = cx at e1 ⊢
            cases p <;> cases q <;> simp [eqA] at g3 <;> subst g3 <;> cases e1 <;> simp
          have hy : a.eval (.const (.pointer none)) = .pointer none := rfl
          rw [hy]
          have hq : ∀ z, (Op.equal t (.pointer z) (.pointer none)).run P w = .ok z.isNone w := fun z => run_eq_ptr_nil hu 9999 z
          rcases hb with ⟨rfl, ad, hx⟩ | ⟨rfl, hx⟩ <;> rw [hx] <;> rcases hop with ⟨rfl, rfl⟩ | ⟨rfl, rfl⟩ <;> simp [eqGuard_at_pointer, binOp, hq]
        · cases hk
      · rename_i a1 a2 a3 hu
        split at hk
        · cases hk
          have hb : b = false ∧ (∃ fn c1 c2, a.eval x = .func fn c1 c2) ∨ b = true ∧ a.eval x = .nilFunc := by
            generalize a.eval x = cx at e1 ⊢
            cases p <;> cases q <;> simp [eqA] at g3 <;> subst g3 <;> cases e1 <;> simp
          have hy : a.eval (.const .nilFunc) = .nilFunc := rfl
          rw [hy]
          rcases hb with ⟨rfl, fn, c1, c2, hx⟩ | ⟨rfl, hx⟩ <;> rw [hx]
          · have hq : (Op.equal t (.func fn c1 c2) .nilFunc).run P w = .ok false w := run_eq_func_nil hu 9999 fn c1 c2
            rcases hop with ⟨rfl, rfl⟩ | ⟨rfl, rfl⟩ <;> simp [eqGuard_at_func, binOp, hq]
          · have hq : (Op.equal t .nilFunc .nilFunc).run P w = .ok true w := run_eq_nil_nil hu 9999
            rcases hop with ⟨rfl, rfl⟩ | ⟨rfl, rfl⟩ <;> simp [eqGuard_at_nilFunc, binOp, hq]
        · cases hk
      · rename_i fs hu
        exact agg_case hop (by simp [hu, aggD]) hk g3 e1 e2
      · rename_i n el hu
        exact agg_case hop (by simp [hu, aggD]) hk g3 e1 e2
      · cases hk
    · cases hv
  · cases hv
end
end Go.Abs
