/- The abstract layer, part 30: maps whose keys are structs. -/
import Derived.Test.YtlddahcgaonlhaaA29
set_option linter.all false
namespace Go.Abs
open Go

section
variable {P : Program} {N : Nat} {e e' : Env} {h h' : AHeap} {l : List CI} {Q : Exit → Env → AHeap → Prop} {m : Inj} {w : World}

/-- Keys that are rows of cells: which one is it? -/
def findB (ks : List CK) (xs : List AV) : List (AV × AV) → Nat → Option (Option (Nat × AV))
  | [], _ => if xs.length = ks.length then some none else none
  | (k', v) :: es, i => match k' with
    | .agg ys => match eqCells ks xs ys with
      | some true => some (some (i, v))
      | some false => findB ks xs es (i + 1)
      | none => none
    | _ => none
theorem findB_len {ks : List CK} {xs : List AV} {r : Option (Nat × AV)} {cs : List MapEntry} {xcs : Array Value} : ∀ {es : List (AV × AV)} {i : Nat}, findB ks xs es i = some r → EntR m h w es cs → CR m h w xs xcs → xs.length = ks.length
  | [], i, hf, _, _ => by
    simp only [findB] at hf
    split at hf
    · assumption
    · cases hf
  | (k', v) :: es, i, hf, _, _ => by
    simp only [findB] at hf
    split at hf
    · split at hf
      · rename_i hq; exact (eqCells_len hq).1
      · rename_i hq; exact (eqCells_len hq).1
      · cases hf
    · cases hf
theorem mkind_a {t : TypeId} {ks : List CK} (hk : mkind P t = some (.a ks)) : flatK P 5 t = some ks ∧ ∃ d, P.underlying t = some d ∧ aggD d = true := by
  unfold mkind at hk
  split at hk
  · cases hk
  · cases hk
  · rename_i hu
    split at hk
    · rw [Option.map_eq_some_iff] at hk
      obtain ⟨a, h1, h2⟩ := hk
      cases h2
      exact ⟨h1, _, hu, rfl⟩
    · cases hk
  · rename_i hu
    split at hk
    · rw [Option.map_eq_some_iff] at hk
      obtain ⟨a, h1, h2⟩ := hk
      cases h2
      exact ⟨h1, _, hu, rfl⟩
    · cases hk
  · cases hk
/-- Cells that are the same are the same values. -/
theorem eqCells_same : ∀ {ks : List CK} {us vs : List AV}, eqCells ks us vs = some true → us = vs ∧ ∀ v ∈ us, (∃ k n, v = .int k n) ∨ (∃ b, v = .bool b) ∨ ∃ s, v = .str s
  | [], us, vs, hq => by
    cases us <;> cases vs <;> simp [eqCells] at hq
    exact ⟨rfl, by simp⟩
  | k :: ks, us, vs, hq => by
    cases us with
    | nil => cases k <;> simp [eqCells] at hq
    | cons u us =>
      cases vs with
      | nil => cases k <;> cases u <;> simp [eqCells] at hq
      | cons v vs =>
        have step : ∀ (t : Bool), (eqCells ks us vs).map (fun r => t && r) = some true → t = true ∧ us = vs ∧ ∀ v ∈ us, (∃ k n, v = .int k n) ∨ (∃ b, v = .bool b) ∨ ∃ s, v = .str s := by
          intro t ht
          cases hr : eqCells ks us vs with
          | none => simp [hr] at ht
          | some r' =>
            simp [hr] at ht
            obtain ⟨rfl, rfl⟩ := ht
            exact ⟨rfl, eqCells_same hr⟩
        cases k <;> cases u <;> cases v <;> simp only [eqCells] at hq <;> try (cases hq; done)
        · split at hq
          · rename_i hk
            obtain ⟨h1, h2, h3⟩ := step _ hq
            have h1' := by simpa using h1
            subst hk; subst h1'; subst h2
            exact ⟨rfl, fun v hv => by rcases List.mem_cons.1 hv with rfl | hv; exact .inl ⟨_, _, rfl⟩; exact h3 v hv⟩
          · cases hq
        · obtain ⟨h1, h2, h3⟩ := step _ hq
          have h1' := by simpa using h1
          subst h1'; subst h2
          exact ⟨rfl, fun v hv => by rcases List.mem_cons.1 hv with rfl | hv; exact .inr (.inl ⟨_, rfl⟩); exact h3 v hv⟩
        · obtain ⟨h1, h2, h3⟩ := step _ hq
          have h1' := by simpa using h1
          subst h1'; subst h2
          exact ⟨rfl, fun v hv => by rcases List.mem_cons.1 hv with rfl | hv; exact .inr (.inr ⟨_, rfl⟩); exact h3 v hv⟩
/-- Real rows of cells that read as one row of plain cells are one. -/
theorem cr_same {us : List AV} {xs ys : Array Value} (hx : CR m h w us xs) (hy : CR m h w us ys) (hp : ∀ v ∈ us, (∃ k n, v = .int k n) ∨ (∃ b, v = .bool b) ∨ ∃ s, v = .str s) : xs = ys ∧ ∀ n, Instr.sameBits (n + 2) (.agg xs) (.agg xs) = true := by
  have one : ∀ i (hi : i < us.length) (x y : Value), VR m h w us[i] x → VR m h w us[i] y → x = y ∧ ∀ n, Instr.sameBits (n + 1) x x = true := by
    intro i hi x y h1 h2
    rcases hp _ (List.getElem_mem hi) with ⟨k, n, hv⟩ | ⟨b, hv⟩ | ⟨s, hv⟩
    · rw [hv] at h1 h2; rw [vr_int h1, vr_int h2]; exact ⟨rfl, fun n => by simp [Instr.sameBits]⟩
    · rw [hv] at h1 h2; rw [vr_bool h1, vr_bool h2]; exact ⟨rfl, fun n => by simp [Instr.sameBits]⟩
    · rw [hv] at h1 h2
      cases h1; cases h2
      exact ⟨rfl, fun n => by simp [Instr.sameBits, (MapKept.bytes_beq _ _).2 rfl]⟩
  have get : ∀ (zs : Array Value) (hz : CR m h w us zs), ∀ i (hi : i < zs.size), VR m h w (us[i]'(by rw [hz.1]; exact hi)) zs[i] := fun zs hz i hi => by
    have := hz.2 i _ (List.getElem?_eq_getElem (by have := hz.1; omega))
    simpa [Array.getD_eq_getD_getElem?, hi] using this
  refine ⟨Array.ext (by rw [← hx.1, ← hy.1]) fun i h1 h2 => (one i (by have := hx.1; omega) _ _ (get xs hx i h1) (get ys hy i h2)).1, fun n => ?_⟩
  simp only [Instr.sameBits, beq_self_eq_true, Bool.true_and, List.all_eq_true]
  rintro ⟨a, b⟩ hab
  obtain ⟨i, hi, he⟩ := List.mem_iff_getElem.1 hab
  simp at hi he
  obtain ⟨rfl, rfl⟩ := he
  exact (one i (by have := hx.1; omega) _ _ (get xs hx i hi) (get xs hx i hi)).2 n

/-! ### may it be a key? -/
def CkT (P : Program) (m : Inj) (h : AHeap) (w : World) (d : Nat) (t : TypeId) (ks : List CK) : Prop :=
  ∀ D em, (∀ us xs, aggD ((P.underlying t).getD .invalid) = true → CR m h w us xs → us.length = ks.length → (Instr.checkKey em (D + d) t (.agg xs)).run P w = .ok () w) ∧
    (aggD ((P.underlying t).getD .invalid) = false → ∀ x, (Instr.checkKey em (D + d) t x).run P w = .ok () w)
theorem CkT.part {d : Nat} {t : TypeId} {ks : List CK} (he : CkT P m h w d t ks) {sz : Nat} {ag : Bool} (ht : tyI P t = some (sz, ag)) (hag : ag = true ∨ sz = 1) (hk : ks.length = sz) (D : Nat) (em : Bool) {us : List AV} {xs : Array Value} {off : Nat} (hx : CR m h w us xs) (hu : off + sz ≤ us.length) :
    ∃ pa, (part t xs off).run P w = .ok pa w ∧ (Instr.checkKey em (D + d) t pa).run P w = .ok () w := by
  obtain ⟨hsz, hagg⟩ := tyI_some ht
  have hat := tyI_agg ht
  cases ag with
  | true => exact ⟨_, by simp [Go.part, hagg, hsz], (he D em).1 _ _ hat (hx.sub off sz hu) (by simp; omega)⟩
  | false =>
    have h10 : sz = 1 := by simpa using hag
    subst h10
    have hxl : off < xs.size := by rw [← hx.1]; omega
    exact ⟨xs[off], by simp [Go.part, hagg, hxl], (he D em).2 hat _⟩
theorem ckK_ok : ∀ (d : Nat) {t : TypeId} {ks : List CK}, flatK P d t = some ks → CkT P m h w d t ks
  | 0, t, ks, hk => by simp [flatK] at hk
  | d + 1, t, ks, hk => by
    intro D em
    have ih : ∀ t ks, flatK P d t = some ks → CkT P m h w d t ks := fun t ks hk => ckK_ok d hk
    rw [show D + (d + 1) = (D + d) + 1 by omega]
    unfold flatK at hk
    split at hk
    · rename_i k hu; exact ⟨fun _ _ ha => by simp [hu, aggD] at ha, fun _ x => by cases x <;> simp [Instr.checkKey, run_underlying hu]⟩
    · rename_i hu; exact ⟨fun _ _ ha => by simp [hu, aggD] at ha, fun _ x => by cases x <;> simp [Instr.checkKey, run_underlying hu]⟩
    · rename_i hu; exact ⟨fun _ _ ha => by simp [hu, aggD] at ha, fun _ x => by cases x <;> simp [Instr.checkKey, run_underlying hu]⟩
    · rename_i fs hu
      split at hk
      · refine ⟨fun us xs _ hx hl => ?_, fun ha => by simp [hu, aggD] at ha⟩
        have key : ∀ (fs : List Field) (o : Nat) {ks : List CK}, flatF (flatK P d) P o fs = some ks → o + ks.length = us.length →
            (forIn fs PUnit.unit fun (f : Field) _ => do
              if f.name ≠ "_" then do
                Instr.checkKey em (D + d) f.type (← part f.type xs f.offset)
                pure (ForInStep.yield PUnit.unit)
              else pure (ForInStep.yield PUnit.unit) : Sem PUnit).run P w = .ok PUnit.unit w := by
          intro fs
          induction fs with
          | nil => intro o ks _ _; simp
          | cons f fs ihf =>
            intro o ks hf hlen
            simp only [flatF] at hf
            split at hf
            · rename_i k1 sz ag g1 g2
              split at hf
              · rename_i hcond
                obtain ⟨hname, rfl, hk1, hag⟩ := hcond
                cases hr : flatF (flatK P d) P (f.offset + sz) fs with
                | none => simp [hr] at hf
                | some k2 =>
                  simp [hr] at hf
                  subst hf
                  simp at hlen
                  obtain ⟨pa, h1, h2⟩ := (ih _ _ g1).part g2 hag hk1 D em hx (off := f.offset) (by omega)
                  have := ihf (f.offset + sz) hr (by omega)
                  simp only [List.forIn_cons, ne_eq, hname, not_false_eq_true, if_true, Sem.run_bind, h1, h2, Result.andThen_ok, Sem.run_pure]
                  exact this
              · cases hf
            · cases hf
        have := key fs.toList 0 hk (by omega)
        simp [Instr.checkKey, run_underlying hu] at this ⊢
        simpa using this
      · cases hk
    · rename_i n el hu
      split at hk
      · rename_i k1 sz ag g1 g2
        split at hk
        · rename_i hcond
          cases hk
          refine ⟨fun us xs _ hx hl => ?_, fun ha => by simp [hu, aggD] at ha⟩
          have hfl : ∀ n, (flatN k1 n).length = n * sz := by
            intro n
            induction n with
            | zero => simp [flatN]
            | succ n ihn => simp [flatN, ihn, hcond.1, Nat.add_mul]; omega
          rw [hfl] at hl
          have key : ∀ (k s : Nat), (s + k) * sz ≤ us.length →
              (forIn (List.range' s k) PUnit.unit fun i _ => do
                Instr.checkKey em (D + d) el (← part el xs (i * (← sizeOf el)))
                pure (ForInStep.yield PUnit.unit) : Sem PUnit).run P w = .ok PUnit.unit w := by
            intro k
            induction k with
            | zero => intro s _; simp
            | succ k ihk =>
              intro s hs
              have hs2 : s * sz + sz ≤ us.length := by
                have : (s + 1) * sz ≤ (s + (k + 1)) * sz := Nat.mul_le_mul_right _ (by omega)
                rw [Nat.add_mul] at this; omega
              obtain ⟨pa, h1, h2⟩ := (ih _ _ g1).part g2 hcond.2 hcond.1 D em hx (off := s * sz) hs2
              simp only [List.range'_succ, List.forIn_cons, Sem.run_bind, (tyI_some g2).1, h1, h2, Result.andThen_ok, Sem.run_pure]
              exact ihk (s + 1) (by rw [show s + 1 + k = s + (k + 1) by omega]; exact hs)
          have := key n 0 (by simp; omega)
          simp only [Instr.checkKey, Sem.run_bind, run_underlying hu, Result.andThen_ok]
          simp only [Std.Legacy.Range.forIn_eq_forIn_range', Std.Legacy.Range.size, Nat.sub_zero, Nat.add_one_sub_one, Nat.div_one]
          rw [this]
          rfl
        · cases hk
      · cases hk
    · cases hk

theorem findAsking_of {kt : TypeId} {d : TypeDesc} {ks : List CK} {xs : List AV} {xcs : Array Value} (hd : P.underlying kt = some d) (hda : aggD d = true) (hfl : flatK P 5 kt = some ks) (hx : CR m h w xs xcs) :
    ∀ {es : List (AV × AV)} {cs : List MapEntry} {i : Nat} {r : Option (Nat × AV)}, EntR m h w es cs → findB ks xs es i = some r →
      ∃ rr, (Instr.findAsking kt (.agg xcs) cs i).run P w = .ok rr w ∧ FindR m h w r rr ∧ ∀ j c, rr = some (j, c) → i ≤ j ∧ ∃ en, cs[j - i]? = some en ∧ en.key = .agg xcs ∧ ∀ n, Instr.sameBits (n + 2) (.agg xcs) (.agg xcs) = true
  | [], [], i, r, _, hf => by
    simp only [findB] at hf
    split at hf
    · cases hf; exact ⟨none, by simp [Instr.findAsking], trivial, fun j c hjc => by cases hjc⟩
    · cases hf
  | [], _ :: _, _, _, he, _ => he.elim
  | _ :: _, [], _, _, he, _ => he.elim
  | (k, v) :: es, c :: cs, i, r, ⟨h1, h2, h3⟩, hf => by
    simp only [findB] at hf
    split at hf
    · rename_i ys
      obtain ⟨ycs, hyc⟩ : ∃ ycs, c.key = .agg ycs := by
        generalize c.key = cc at h1
        cases h1 with
        | agg _ cs _ _ _ => exact ⟨cs, rfl⟩
      have hcy : CR m h w ys ycs := by
        rw [hyc] at h1
        cases h1 with
        | agg _ _ q1 q2 q3 => exact ⟨q1, q3⟩
      have hu : aggD ((P.underlying kt).getD .invalid) = true := by simp [hd, hda]
      split at hf
      · rename_i hs
        cases hf
        have hq := ((flatK_ok (P := P) (m := m) (h := h) (w := w) 5 hfl) 9995).1 _ _ xcs ycs true hu hx hcy hs
        have hq' : (Op.equal kt (.agg xcs) c.key).run P w = .ok true w := by rw [hyc]; exact hq
        obtain ⟨e1, e2⟩ := eqCells_same hs
        subst e1
        obtain ⟨e3, e4⟩ := cr_same hx hcy e2
        exact ⟨some (i, c.val), by simp [Instr.findAsking, hq'], ⟨rfl, h2⟩, fun j cc hjc => by cases hjc; exact ⟨Nat.le_refl _, c, by simp, by rw [hyc, e3], e4⟩⟩
      · rename_i hs
        have hq := ((flatK_ok (P := P) (m := m) (h := h) (w := w) 5 hfl) 9995).1 _ _ xcs ycs false hu hx hcy hs
        have hq' : (Op.equal kt (.agg xcs) c.key).run P w = .ok false w := by rw [hyc]; exact hq
        obtain ⟨rr, q1, q2, q3⟩ := findAsking_of hd hda hfl hx h3 hf
        refine ⟨rr, by simp [Instr.findAsking, hq', q1], q2, fun j cc hjc => ?_⟩
        obtain ⟨h5, en, h6, h7⟩ := q3 j cc hjc
        exact ⟨by omega, en, by rw [show j - i = (j - (i + 1)) + 1 by omega]; simpa using h6, h7⟩
      · cases hf
    · cases hf
theorem run_findKeyA {kt : TypeId} {d : TypeDesc} {xcs : Array Value} {cs : List MapEntry} {rr : Option (Nat × Value)} (hd : P.underlying kt = some d) (hda : aggD d = true) (hf : (Instr.findAsking kt (.agg xcs) cs 0).run P w = .ok rr w) : (Instr.findKey kt (.agg xcs) cs).run P w = .ok rr w := by
  cases cs with
  | nil =>
    simp [Instr.findAsking] at hf
    simp [Instr.findKey, run_underlying hd, Instr.findNow, ← hf]
  | cons c cs =>
    have : Instr.sameNow d (.agg xcs) c.key = none := by
      cases d <;> simp [aggD] at hda <;> simp [Instr.sameNow]
    simp [Instr.findKey, run_underlying hd, Instr.findNow, this, hf]
end
section
variable {P : Program} {N : Nat} {e e' : Env} {h h' : AHeap} {l : List CI} {Q : Exit → Env → AHeap → Prop}
theorem XOK.mputA {ks : List CK} {x y z : Opd} {id : Nat} {xs : List AV} {v : AV} {es : List (AV × AV)} {r : Option (Nat × AV)} (hx : ev e x = some (.map id)) (hy : ev e y = some (.agg xs)) (hz : ev e z = some v) (hg : h.get id = some (.map es)) (hf : findB ks xs es 0 = some r) :
    XOK P N (.mput (.a ks) x y z) e h none (.set id (.map (putM es (.agg xs) v r))) := by
  intro o hc e2 hs m w act hr he
  obtain ⟨t, kt, et, mo, ko, vo, hop, hu, h1, h2, h3, hmk⟩ := cx_mput hc
  have hx2 : ev e2 x = some (.map id) := (ev_congr fun s h => hs s (by simp [xslots, h])).trans hx
  have hy2 : ev e2 y = some (.agg xs) := (ev_congr fun s h => hs s (by simp [xslots, h])).trans hy
  have hz2 : ev e2 z = some v := (ev_congr fun s h => hs s (by simp [xslots, h])).trans hz
  have vm := he.eval h1 hx2
  have vk := he.eval h2 hy2
  have vv := he.eval h3 hz2
  obtain ⟨b, ens, ck, e1, hmb, hb, hlen, hent⟩ := map_obj hr hg vm
  obtain ⟨_, ens0, ck0, p1, p2, p3, p4⟩ := hr.obj _ _ hg
  rw [hmb] at p1; cases p1
  rw [hb] at p2; cases p2
  obtain ⟨hfl, d, hd, hda⟩ := mkind_a hmk
  obtain ⟨xcs, hxc⟩ : ∃ xcs, act.eval ko = .agg xcs := by
    generalize act.eval ko = c at vk
    cases vk with
    | agg _ cs _ _ _ => exact ⟨cs, rfl⟩
  have hcr : CR m h w xs xcs := by
    rw [hxc] at vk
    cases vk with
    | agg _ _ q1 q2 q3 => exact ⟨q1, q3⟩
  obtain ⟨rr, hfn, hfr, hat⟩ := findAsking_of (w := w) hd hda hfl hcr hent hf
  have hck : (Instr.checkKey false 10000 kt (act.eval ko)).run P w = .ok () w := by
    rw [hxc]; exact ((ckK_ok (P := P) (m := m) (h := h) (w := w) 5 hfl) 9995 false).1 _ _ (by simp [hd, hda]) hcr (findB_len hf hent hcr)
  have hfk : (Instr.findKey kt (act.eval ko) ens.toList).run P w = .ok rr w := by
    rw [hxc]; exact run_findKeyA hd hda hfn
  have key : ∃ ens' ck', (Instr.mapUpdate t (act.eval mo) (act.eval ko) (act.eval vo)).run P w = .ok () { w with heap := w.heap.setIfInBounds b (.map ens' ck') } ∧ (putM es (.agg xs) v r).length = ens'.size ∧
      ∀ (i : Nat) (k u : AV), (putM es (.agg xs) v r)[i]? = some (k, u) → VR m h w k (ens'.getD i default).key ∧ VR m h w u (ens'.getD i default).val := by
    rw [e1]
    cases r with
    | none =>
      cases rr with
      | some _ => exact hfr.elim
      | none =>
        refine ⟨ens.push { key := act.eval ko, val := act.eval vo, born := ck }, ck + 1, by simp [Instr.mapUpdate, run_underlying hu, MapKept.run_getObj_map hb, hck, hfk, MapKept.run_setObj_map _ hb, Result.andThen], by simp [putM, hlen], fun i k u hi => ?_⟩
        simp only [putM] at hi
        by_cases hlt : i < es.length
        · rw [List.getElem?_append_left hlt] at hi
          have := p4 i k u hi
          have h5 : (ens.push { key := act.eval ko, val := act.eval vo, born := ck }).getD i default = ens.getD i default := by
            simp [Array.getD_eq_getD_getElem?, Array.getElem?_push_lt (show i < ens.size by omega), show i < ens.size by omega]
          rw [h5]; exact this
        · have hi2 := (List.getElem?_eq_some_iff.1 hi).1
          simp at hi2
          have : i = es.length := by omega
          subst this
          simp at hi
          obtain ⟨rfl, rfl⟩ := hi
          have h5 : (ens.push { key := act.eval ko, val := act.eval vo, born := ck }).getD es.length default = { key := act.eval ko, val := act.eval vo, born := ck } := by
            rw [hlen]; simp [Array.getD_eq_getD_getElem?]
          rw [h5]; exact ⟨vk, vv⟩
    | some iv =>
      cases rr with
      | none => exact hfr.elim
      | some jc =>
        obtain ⟨j, c⟩ := jc
        obtain ⟨i0, v0⟩ := iv
        obtain ⟨q1, q2⟩ := hfr
        subst q1
        obtain ⟨_, en, q4, q7, q8⟩ := hat i0 c rfl
        have q8 := q8 9998
        rw [← hxc] at q7 q8
        have hj : ens[i0]? = some en := by simpa using q4
        refine ⟨ens.modify i0 fun e => { e with key := act.eval ko, val := act.eval vo }, ck, by simp [Instr.mapUpdate, run_underlying hu, MapKept.run_getObj_map hb, hck, hfk, hj, q7, Instr.keyThatStays, q8, MapKept.run_setObj_map _ hb, Result.andThen], by simp [putM, hlen], fun i k u hi => ?_⟩
        simp only [putM] at hi
        by_cases hin : i0 = i
        · subst hin
          have hlt : i0 < es.length := by
            have := (List.getElem?_eq_some_iff.1 hi).1
            simpa using this
          rw [List.getElem?_set_self hlt] at hi
          cases hi
          have h5 : (ens.modify i0 fun e => { e with key := act.eval ko, val := act.eval vo }).getD i0 default = { en with key := act.eval ko, val := act.eval vo } := by
            simp [Array.getD_eq_getD_getElem?, Array.getElem?_modify, hj]
          rw [h5]; exact ⟨vk, vv⟩
        · rw [List.getElem?_set_ne hin] at hi
          have := p4 i k u hi
          have h5 : (ens.modify i0 fun e => { e with key := act.eval ko, val := act.eval vo }).getD i default = ens.getD i default := by
            simp [Array.getD_eq_getD_getElem?, Array.getElem?_modify, hin]
          rw [h5]; exact this
  obtain ⟨ens', ck', hrun, hl', hv'⟩ := key
  have wu : WUpd w { w with heap := w.heap.setIfInBounds b (.map ens' ck') } b := WUpd.map hb
  have st := step_set hr hg hmb (x1 := .map (putM es (.agg xs) v r)) trivial wu
  refine ⟨m, _, hr.set (x1 := .map (putM es (.agg xs) v r)) hg hmb trivial wu ⟨b, ens', ck', hmb, (MapKept.heap_set hb).1, hl', fun i k u hi => ⟨(hv' i k u hi).1.step st, (hv' i k u hi).2.step st⟩⟩, st, ?_⟩
  rcases hop with hop | hop <;> simp [execOp, hop, hrun]


theorem FX.mputA {d : Option Nat} {g : Option (Nat × Bool)} {ks : List CK} {x y z : Opd} {id : Nat} {xs : List AV} {v : AV} {es : List (AV × AV)} {r : Option (Nat × AV)} (hx : ev e x = some (.map id)) (hy : ev e y = some (.agg xs)) (hz : ev e z = some v) (hm : h.get id = some (.map es)) (hf : findB ks xs es 0 = some r) (hg : met e g) :
    FX P N ⟨d, .raw (.mput (.a ks) x y z), g⟩ e h none (h.set id (some (.map (putM es (.agg xs) v r)))) := FX.raw (XOK.mputA hx hy hz hm hf) hg
end
end Go.Abs
