/- The abstract layer, part 13: contracts of functions; functions that only compute. -/
import Derived.Test.YtlddahcgaonlhaaA12
set_option linter.all false
namespace Go.Abs
open Go

inductive RC where
  | t (n : Nat)
  | cell (n sz : Nat) (ag : Bool)
  deriving Inhabited
def compRes (P : Program) (N : Nat) : ResultVar → Option RC
  | .tmp t => if t < N then some (.t t) else none
  | .cell a ty => match tyI P ty with
    | some (sz, ag) => if ag = true ∨ sz = 1 then some (.cell a sz ag) else none
    | none => none
def resOne (g : Nat → Option AObj) (e : Env) : RC → Option AV
  | .t n => lk n e
  | .cell n sz ag => match lk n e with
    | some p => match rdP g p with
      | some (_, c, i, off) => match c[i]? with
        | some cells => getC sz ag cells off
        | none => none
      | none => none
    | none => none
def resA (g : Nat → Option AObj) (e : Env) : List RC → Option (List AV)
  | [] => some []
  | r :: rs => match resOne g e r, resA g e rs with
    | some v, some vs => some (v :: vs)
    | _, _ => none
def fin : List AV → AV
  | [v] => v
  | vs => .tup vs
def argE : Nat → List AV → Env
  | _, [] => []
  | i, v :: vs => (i, some v) :: argE (i + 1) vs

/-- What function f is, compiled. -/
def FnIs (P : Program) (f N : Nat) (cc : CC) (rcs : List RC) : Prop :=
  ∃ fn code, P.funcs[f]? = some fn ∧ fn.body = some code ∧ fn.ntmps = N ∧ compC P N code = cc ∧ ofL (compRes P N) fn.results.toList = some rcs

section
variable {P : Program} {N f : Nat} {cc : CC} {rcs : List RC} {vs : List AV} {h : AHeap}

theorem lk_argE : ∀ (vs : List AV) (i k : Nat), lk k (argE i vs) = if i ≤ k then vs[k - i]? else none
  | [], i, k => by simp [argE, lk_cons, lk_nil]
  | v :: vs, i, k => by
    simp only [argE, lk_cons, lk_nil]
    by_cases e : k = i
    · subst e; simp
    · rw [if_neg e, lk_argE vs (i + 1) k]
      by_cases h1 : i ≤ k
      · rw [if_pos h1, if_pos (by omega), show k - i = (k - (i + 1)) + 1 by omega]
        simp
      · rw [if_neg h1, if_neg (by omega)]

theorem resOne_ok {m : Inj} {w : World} {e : Env} {a : Act} (hr : HR m h w) (he : ER N m h w e a) {rv : ResultVar} {rc : RC} (hc : compRes P N rv = some rc) {v : AV} (hv : resOne h.get e rc = some v) :
    ∃ cv, (match rv with
      | .tmp t => pure (a.tmps.getD t undef)
      | .cell p t => do loadVar t (← asAddr (a.tmps.getD p undef)) : Sem Value).run P w = .ok cv w ∧ VR m h w v cv := by
  cases rv with
  | tmp t =>
    simp only [compRes] at hc
    split at hc
    · cases hc; exact ⟨_, rfl, he.val t v hv⟩
    · cases hc
  | cell p ty =>
    simp only [compRes] at hc
    split at hc
    · rename_i sz ag ht
      split at hc
      · rename_i hag
        cases hc
        obtain ⟨hsz, hagg⟩ := tyI_some ht
        simp only [resOne] at hv
        split at hv
        · rename_i q g1
          split at hv
          · rename_i s c i off g2
            split at hv
            · rename_i cells g3
              obtain ⟨ad, hp, hlen, hcell⟩ := rdP_vr hr (he.val p q g1) g2
              obtain ⟨G, hG1, hG2, hsc⟩ := hcell cells g3
              have hl := hlen cells (List.mem_of_getElem? g3)
              obtain ⟨hle, hA, hB⟩ := getC_vr hv hag hl hsc hG2
              cases ag with
              | true =>
                refine ⟨_, ?_, hA rfl⟩
                have := run_loadCells (P := P) w ad sz G (fun j hj => hG1 j (by omega))
                simp only [Sem.run_bind, hp, asAddr, Sem.run_pure, Result.andThen_ok, loadVar, hagg, if_true, hsz, this]
              | false =>
                refine ⟨_, ?_, hB rfl⟩
                have h10 : sz = 1 := by simpa using hag
                have := hG1 0 (by omega)
                rw [Addr.add_zero'] at this
                simp [hp, asAddr, loadVar, hagg, this]
            · cases hv
          · cases hv
        · cases hv
      · cases hc
    · cases hc

theorem results_ok {m : Inj} {w : World} {e : Env} {a : Act} (hr : HR m h w) (he : ER N m h w e a) {fn : Func} (hc : ofL (compRes P N) fn.results.toList = some rcs) {rs : List AV} (hv : resA h.get e rcs = some rs) :
    ∃ v, (results fn a.tmps).run P w = .ok v w ∧ VR m h w (fin rs) v := by
  have key : ∀ (l : List ResultVar) (rcs : List RC) (rs : List AV), ofL (compRes P N) l = some rcs → resA h.get e rcs = some rs →
      ∃ cvs : List Value, (l.mapM (fun
        | .tmp t => pure (a.tmps.getD t undef)
        | .cell p t => do loadVar t (← asAddr (a.tmps.getD p undef))) : Sem (List Value)).run P w = .ok cvs w ∧ rs.length = cvs.length ∧ ∀ (i : Nat) (v : AV), rs[i]? = some v → VR m h w v (cvs.getD i undef) := by
    intro l
    induction l with
    | nil => intro rcs rs h1 h2; simp [ofL] at h1; subst h1; simp [resA] at h2; subst h2; exact ⟨[], by simp, rfl, by simp⟩
    | cons rv l ih =>
      intro rcs rs h1 h2
      simp only [ofL] at h1
      split at h1
      · rename_i rc rcs' g1 g2
        cases h1
        simp only [resA] at h2
        split at h2
        · rename_i v vs' g3 g4
          cases h2
          obtain ⟨cvs, q1, q2, q3⟩ := ih rcs' vs' g2 g4
          obtain ⟨cv, p1, p2⟩ := resOne_ok hr he g1 g3
          refine ⟨cv :: cvs, ?_, by simp [q2], fun i u hu => ?_⟩
          · simp only [List.mapM_cons, Sem.run_bind]
            rw [p1]
            simp only [Result.andThen_ok]
            rw [q1]
            simp
          · cases i with
            | zero => simp at hu; subst hu; simpa using p2
            | succ i => simp at hu; simpa using q3 i u hu
        · cases h2
      · cases h1
  obtain ⟨cvs, q1, q2, q3⟩ := key _ rcs rs hc hv
  have hrun : (results fn a.tmps).run P w = .ok (if h : cvs.toArray.size = 1 then cvs.toArray[0] else .tuple cvs.toArray) w := by
    unfold results
    rw [Array.mapM_eq_mapM_toList]
    simp only [Sem.run_bind, Sem.run_map, Sem.run_pure]
    erw [q1]
    rfl
  by_cases h1 : cvs.length = 1
  · obtain ⟨cv, rfl⟩ := List.length_eq_one_iff.1 h1
    rw [List.length_singleton] at q2
    obtain ⟨v, rfl⟩ := List.length_eq_one_iff.1 q2
    refine ⟨cv, by rw [hrun]; simp, ?_⟩
    have := q3 0 v rfl
    simpa [fin] using this
  · refine ⟨.tuple cvs.toArray, by rw [hrun]; simp [h1], ?_⟩
    have hf : fin rs = .tup rs := by
      cases rs with
      | nil => rfl
      | cons v rs =>
        cases rs with
        | nil => simp at q2; omega
        | cons u rs => rfl
    rw [hf]
    exact .tup _ _ (by simp [q2]) fun i v hi => by
      have := q3 i v hi
      simpa [Array.getD_eq_getD_getElem?, List.getD_eq_getElem?_getD] using this

/-- A contract out of a walk over the compiled body. -/
theorem AC.intro {R : AV → AHeap → Prop} (hfn : FnIs P f N cc rcs) (hn : vs.length ≤ N)
    (hw : AW P N cc (fun ex e h1 => (ex = .ret ∨ ex = .normal) ∧ ∃ rs, resA h1.get e rcs = some rs ∧ R (fin rs) h1) (argE 0 vs) h) : AC P f vs h R := by
  obtain ⟨fn, code, h1, h2, h3, h4, h5⟩ := hfn
  intro m w cargs hr hl hv
  refine calls_of_wp h1 h2 (wp_mono (hw code h4 m w _ hr ⟨by simp [h3, ← hl]; omega, rfl, fun i v hi => ?_⟩) fun ex a' w' hp => ?_)
  · rw [lk_argE] at hi
    simp at hi
    have hlt : i < cargs.size := by rw [← hl]; exact (List.getElem?_eq_some_iff.1 hi).1
    have := hv i v hi
    simpa [Array.getD_eq_getD_getElem?, Array.getElem?_append_left hlt] using this
  · obtain ⟨m', e', h', g1, g2, g3, hex, rs, g4, g5⟩ := hp
    obtain ⟨v, hrun, hvr⟩ := results_ok g1 g2 h5 g4
    rcases hex with rfl | rfl
    · exact ⟨g2.defers, v, hrun, v, m', fin rs, h', rfl, g1, hvr, g3, g5⟩
    · exact ⟨g2.defers, v, hrun, v, m', fin rs, h', rfl, g1, hvr, g3, g5⟩

/-! ### values whose names are all old -/
inductive Clo (u : Nat → Prop) : AV → Prop
  | bool (b : Bool) : Clo u (.bool b)
  | int (k : IntKind) (n : Int) : Clo u (.int k n)
  | str (s : List UInt8) : Clo u (.str s)
  | nilp : Clo u .nilp
  | ptr (id i off : Nat) (hu : u id) : Clo u (.ptr id i off)
  | iptr (sz : Nat) (c : List (List AV)) (i off : Nat) (hc : ∀ x ∈ c, ∀ v ∈ x, Clo u v) : Clo u (.iptr sz c i off)
  | nils : Clo u .nils
  | imm (sz : Nat) (c : List (List AV)) (hc : ∀ x ∈ c, ∀ v ∈ x, Clo u v) : Clo u (.imm sz c)
  | app (id g sz : Nat) (c : List (List AV)) (hu : u id) (hc : ∀ x ∈ c, ∀ v ∈ x, Clo u v) : Clo u (.app id g sz c)
  | ref (id off len : Nat) (hu : u id) : Clo u (.ref id off len)
  | nilm : Clo u .nilm
  | map (id : Nat) (hu : u id) : Clo u (.map id)
  | nilf : Clo u .nilf
  | func (fn : Fn) (vs us : List AV) (h1 : ∀ v ∈ vs, Clo u v) (h2 : ∀ v ∈ us, Clo u v) : Clo u (.func fn vs us)
  | nili : Clo u .nili
  | iface (t : TypeId) (v : AV) (hv : Clo u v) : Clo u (.iface t v)
  | agg (vs : List AV) (hv : ∀ v ∈ vs, Clo u v) : Clo u (.agg vs)
  | tup (vs : List AV) (hv : ∀ v ∈ vs, Clo u v) : Clo u (.tup vs)

theorem mem_idx {c : List (List AV)} {p : AV → Prop} (hp : ∀ (i : Nat) (cells : List AV), c[i]? = some cells → ∀ (j : Nat) (v : AV), cells[j]? = some v → p v) : ∀ x ∈ c, ∀ v ∈ x, p v := by
  intro x hx v hv
  obtain ⟨i, hi, rfl⟩ := List.mem_iff_getElem.1 hx
  obtain ⟨j, hj, rfl⟩ := List.mem_iff_getElem.1 hv
  exact hp i _ (List.getElem?_eq_getElem hi) j _ (List.getElem?_eq_getElem hj)
theorem mem_idx1 {c : List AV} {p : AV → Prop} (hp : ∀ (i : Nat) (v : AV), c[i]? = some v → p v) : ∀ v ∈ c, p v := by
  intro v hv
  obtain ⟨i, hi, rfl⟩ := List.mem_iff_getElem.1 hv
  exact hp i _ (List.getElem?_eq_getElem hi)

theorem VR.clo {m : Inj} {w : World} {v : AV} {c : Value} (hv : VR m h w v c) : Clo h.used v := by
  induction hv with
  | bool b => exact .bool b
  | int k n => exact .int k n
  | str s => exact .str s
  | nilp => exact .nilp
  | ptr id i off a hu ha => exact .ptr _ _ _ hu
  | iptr sz c i off b o F hic hl hs _ ih => exact .iptr _ _ _ _ (mem_idx ih)
  | nils0 => exact .nils
  | nils1 a => exact .nils
  | imm0 sz => exact .imm _ _ (by simp)
  | imm1 sz a cap => exact .imm _ _ (by simp)
  | imm sz c b o cap F hic hl hs _ hc ih => exact .imm _ _ (mem_idx ih)
  | app0 id g sz hu ht => exact .app _ _ _ _ hu (by simp)
  | app1 id g sz a hu ht => exact .app _ _ _ _ hu (by simp)
  | app id g sz c b cap F hu hic hl hs _ hc ht ih => exact .app _ _ _ _ hu (mem_idx ih)
  | ref id off len cap a hu hc ha => exact .ref _ _ _ hu
  | nilm => exact .nilm
  | map id r hu ha => exact .map _ hu
  | nilf => exact .nilf
  | func fn vs us cs ds hv hu _ _ ih1 ih2 => exact .func _ _ _ (mem_idx1 ih1) (mem_idx1 ih2)
  | nili => exact .nili
  | iface t v c _ ih => exact .iface _ _ ih
  | agg vs cs hv hs _ ih => exact .agg _ (mem_idx1 ih)
  | tup vs cs hv _ ih => exact .tup _ (mem_idx1 ih)

/-- h1 has all that h has, as it is. -/
def Keeps (h h1 : AHeap) : Prop := h.next ≤ h1.next ∧ ∀ id, h.used id → h1.get id = h.get id
theorem Keeps.refl (h : AHeap) : Keeps h h := ⟨Nat.le_refl _, fun _ _ => rfl⟩
theorem Keeps.put {h h1 : AHeap} (hk : Keeps h h1) {nm : Nat} (hn : h.next ≤ nm) (x : AObj) : Keeps h (h1.put nm x) := by
  refine ⟨?_, fun id hu => ?_⟩
  · have := hk.1; simp only [AHeap.put]; split <;> omega
  · have := hu.1
    simp only [AHeap.put]
    rw [if_neg (by omega)]
    exact hk.2 id hu
theorem Keeps.set {h h1 : AHeap} (hk : Keeps h h1) {nm : Nat} (hn : h.next ≤ nm) (x : Option AObj) : Keeps h (h1.set nm x) := by
  refine ⟨hk.1, fun id hu => ?_⟩
  have := hu.1
  simp only [AHeap.set]
  rw [if_neg (by omega)]
  exact hk.2 id hu

section restrict
variable {m : Inj} {h1 : AHeap} {w : World}
theorem own_sub (hs : ∀ id x, h.get id = some x → h1.get id = some x) {b o : Nat} (ho : Own m h b o) : Own m h1 b o := by
  obtain ⟨id, t, ⟨x, hx⟩, h2, h3⟩ := ho
  exact ⟨id, t, ⟨x, hs id x hx⟩, h2, h3⟩
theorem IC.sub_heap (hs : ∀ id x, h.get id = some x → h1.get id = some x) {b o n : Nat} {F : Nat → Value} (hic : IC w (Own m h1) b o n F) : IC w (Own m h) b o n F :=
  fun k hk => ⟨(hic k hk).1, fun ho => (hic k hk).2 (own_sub hs ho)⟩

theorem VR.restrict (hs : ∀ id x, h.get id = some x → h1.get id = some x) {v : AV} {c : Value} (hv : VR m h1 w v c) (hc : Clo h.used v) : VR m h w v c := by
  induction hv with
  | bool b => exact .bool b
  | int k n => exact .int k n
  | str s => exact .str s
  | nilp => exact .nilp
  | ptr id i off a hu ha => cases hc with | ptr _ _ _ hu' => exact .ptr _ _ _ _ hu' fun sz c hg => ha sz c (hs _ _ hg)
  | iptr sz c i off b o F hic hl hsc _ ih => cases hc with | iptr _ _ _ _ hc => exact .iptr _ _ _ _ _ _ F (hic.sub_heap hs) hl hsc fun i cells hi j v hj => ih i cells hi j v hj (hc _ (List.mem_of_getElem? hi) _ (List.mem_of_getElem? hj))
  | nils0 => exact .nils0
  | nils1 a => exact .nils1 a
  | imm0 sz => exact .imm0 sz
  | imm1 sz a cap => exact .imm1 sz a cap
  | imm sz c b o cap F hic hl hsc _ hcap ih => cases hc with | imm _ _ hc => exact .imm _ _ _ _ _ F (hic.sub_heap hs) hl hsc (fun i cells hi j v hj => ih i cells hi j v hj (hc _ (List.mem_of_getElem? hi) _ (List.mem_of_getElem? hj))) hcap
  | app0 id g sz hu ht => cases hc with | app _ _ _ _ hu' _ => exact .app0 _ _ _ hu' fun g' n' hg => ht g' n' (hs _ _ hg)
  | app1 id g sz a hu ht => cases hc with | app _ _ _ _ hu' _ => exact .app1 _ _ _ _ hu' fun g' n' hg => ht g' n' (hs _ _ hg)
  | app id g sz c b cap F hu hic hl hsc _ hcap ht ih => cases hc with | app _ _ _ _ hu' hc => exact .app _ _ _ _ _ _ F hu' (hic.sub_heap hs) hl hsc (fun i cells hi j v hj => ih i cells hi j v hj (hc _ (List.mem_of_getElem? hi) _ (List.mem_of_getElem? hj))) hcap fun g' n' hg => ht g' n' (hs _ _ hg)
  | ref id off len cap a hu hcap ha => cases hc with | ref _ _ _ hu' => exact .ref _ _ _ _ _ hu' hcap fun sz c hg => ha sz c (hs _ _ hg)
  | nilm => exact .nilm
  | map id r hu ha => cases hc with | map _ hu' => exact .map _ _ hu' fun es hg => ha es (hs _ _ hg)
  | nilf => exact .nilf
  | func fn vs us cs ds hv hu _ _ ih1 ih2 => cases hc with | func _ _ _ c1 c2 => exact .func _ _ _ _ _ hv hu (fun i v hi => ih1 i v hi (c1 _ (List.mem_of_getElem? hi))) (fun i v hi => ih2 i v hi (c2 _ (List.mem_of_getElem? hi)))
  | nili => exact .nili
  | iface t v c _ ih => cases hc with | iface _ _ c1 => exact .iface _ _ _ (ih c1)
  | agg vs cs hv hsc _ ih => cases hc with | agg _ c1 => exact .agg _ _ hv hsc fun i v hi => ih i v hi (c1 _ (List.mem_of_getElem? hi))
  | tup vs cs hv _ ih => cases hc with | tup _ c1 => exact .tup _ _ hv fun i v hi => ih i v hi (c1 _ (List.mem_of_getElem? hi))

/-- Back to the old names: all of them are as they were. -/
theorem back_hr {m₀ : Inj} {w₀ : World} (hr₀ : HR m₀ h w₀) (hr : HR m h1 w) (hs : ∀ id x, h.get id = some x → h1.get id = some x) : HR m h w where
  gapl := hr₀.gapl
  live := hr₀.live
  inj := fun i j x y b s t hi hj => hr.inj i j x y b s t (hs i x hi) (hs j y hj)
  obj := fun id x hg => by
    have ho := hr.obj id x (hs id x hg)
    have ho₀ := hr₀.obj id x hg
    cases x with
    | mem sz c =>
      obtain ⟨b, cc, T, q1, q2, q3, q4⟩ := ho
      obtain ⟨_, _, _, _, _, _, p4⟩ := ho₀
      exact ⟨b, cc, T, q1, q2, q3, q4.1, q4.2.1, fun i cells hi j v hj => (q4.2.2 i cells hi j v hj).restrict hs (p4.2.2 i cells hi j v hj).clo⟩
    | tail _ _ => exact ho
    | map es =>
      obtain ⟨b, ens, ck, q1, q2, q3, q4⟩ := ho
      obtain ⟨_, _, _, _, _, _, p4⟩ := ho₀
      exact ⟨b, ens, ck, q1, q2, q3, fun i k v hi => ⟨(q4 i k v hi).1.restrict hs (p4 i k v hi).1.clo, (q4 i k v hi).2.restrict hs (p4 i k v hi).2.clo⟩⟩
theorem back_step {m₀ : Inj} {w₀ : World} (st : Step m₀ h w₀ m h1 w) (hr₀ : HR m₀ h w₀) (hs : ∀ id x, h.get id = some x → h1.get id = some x) : Step m₀ h w₀ m h w where
  os := st.os
  tape := st.tape
  output := st.output
  size := st.size
  kind := fun b cc T fz hb hf => st.kind b cc T fz hb fun hf1 => hf fun id t x hg => hf1 id t x (hs id x hg)
  free := fun b hb hf => ⟨(st.free b hb hf).1, fun id t x hg => (st.free b hb hf).2 id t x (hs id x hg)⟩
  cell := fun b o v hc hn => ⟨(st.cell b o v hc hn).1, fun ho => (st.cell b o v hc hn).2 (own_sub hs ho)⟩
  used := fun _ hu => hu
  live := fun id x hu hg => by
    obtain ⟨x0, h0, hm, hc⟩ := st.live id x hu (hs id x hg)
    exact ⟨x0, h0, hm, hc⟩

/-- A result, frozen: rows that the call itself made can't change any more. -/
inductive Fz (h h1 : AHeap) : AV → AV → Prop
  | clo (r : AV) (hc : Clo h.used r) : Fz h h1 r r
  | nil (sz : Nat) : Fz h h1 .nils (.imm sz [])
  | app (id g sz : Nat) (c : List (List AV)) (hc : ∀ x ∈ c, ∀ v ∈ x, Clo h.used v) : Fz h h1 (.app id g sz c) (.imm sz c)
  | ref (id off len sz : Nat) (c : List (List AV)) (hg : h1.get id = some (.mem sz c)) (hu : ¬ h.used id) (hc : ∀ x ∈ c, ∀ v ∈ x, Clo h.used v) : Fz h h1 (.ref id off len) (.imm sz ((c.drop off).take len))
  | agg (rs rs' : List AV) (hl : rs.length = rs'.length) (hsc : ∀ r' ∈ rs', AV.scalar r' = true) (hf : ∀ (i : Nat) (r r' : AV), rs[i]? = some r → rs'[i]? = some r' → Fz h h1 r r') : Fz h h1 (.agg rs) (.agg rs')
  | tup (rs rs' : List AV) (hl : rs.length = rs'.length) (hf : ∀ (i : Nat) (r r' : AV), rs[i]? = some r → rs'[i]? = some r' → Fz h h1 r r') : Fz h h1 (.tup rs) (.tup rs')

theorem Fz.vr (hr₁ : HR m h1 w) (hs : ∀ id x, h.get id = some x → h1.get id = some x) (hlive : ∀ id x, h.get id = some x → h.used id) {r r' : AV} (hz : Fz h h1 r r') : ∀ {v : Value}, VR m h1 w r v → VR m h w r' v := by
  induction hz with
  | clo r hc => exact fun hv => hv.restrict hs hc
  | nil sz =>
    intro v hv
    cases hv with
    | nils0 => exact .imm0 _
    | nils1 a => exact .imm1 _ _ _
  | app id g sz c hc =>
    intro v hv
    cases hv with
    | app0 => exact .imm0 _
    | app1 => exact .imm1 _ _ _
    | app _ _ _ _ b cap F hu hic hl hsc hrr hcap ht => exact .imm _ _ _ _ _ F (hic.sub_heap hs) hl hsc (fun i cells hi j v hj => (hrr i cells hi j v hj).restrict hs (hc _ (List.mem_of_getElem? hi) _ (List.mem_of_getElem? hj))) hcap
  | ref id off len sz c hg hu hc =>
    intro v hv
    cases hv with
    | ref _ _ _ cap a hu' hcap ha =>
      obtain ⟨b, hb, hle, had, cc, T, hcc, hsz⟩ := ha _ _ hg
      obtain ⟨b', cc', T', q1, q2, q3, q4⟩ := hr₁.obj _ _ hg
      rw [hb] at q1
      cases q1
      have hlen : ((c.drop off).take len).length = len := by simp; omega
      rcases Nat.eq_zero_or_pos len with h0 | h0
      · subst h0
        simp only [List.take_zero]
        exact .imm1 _ _ _
      · rcases had with h00 | rfl
        · omega
        · have hrow := (q4.drop off).take len
          have := VR.imm (m := m) (h := h) (w := w) sz ((c.drop off).take len) b (off * sz) cap (fun k => cc'.getD (off * sz + k) undef) (fun k hk => ⟨?_, ?_⟩) hrow.1 hrow.2.1 (fun i cells hi j v hj => (hrow.2.2 i cells hi j v hj).restrict hs (hc _ (List.mem_of_mem_drop (List.mem_of_mem_take (List.mem_of_getElem? hi))) _ (List.mem_of_getElem? hj))) (by omega)
          · rwa [hlen] at this
          · rw [hlen] at hk
            have h5 : (off + len) * sz ≤ c.length * sz := Nat.mul_le_mul_right _ hle
            rw [Nat.add_mul] at h5
            rw [cell_of_row w b _ cc' T' (0, 0) q2]
            simp [Array.getD_eq_getD_getElem?, show off * sz + k < cc'.size by omega]
          · rintro ⟨j, t, ⟨x, hx⟩, hm, _⟩
            have := hr₁.inj j id x _ b t 0 (hs j x hx) hg hm hb
            subst this
            exact hu (hlive _ _ hx)
  | agg rs rs' hl hsc _ ih =>
    intro v hv
    cases hv with
    | agg _ cs q1 q2 q3 =>
      refine .agg _ _ (by omega) hsc fun i r' hi => ?_
      have hlt : i < rs.length := by rw [hl]; exact (List.getElem?_eq_some_iff.1 hi).1
      exact ih i _ r' (List.getElem?_eq_getElem hlt) hi (q3 i _ (List.getElem?_eq_getElem hlt))
  | tup rs rs' hl _ ih =>
    intro v hv
    cases hv with
    | tup _ cs q1 q3 =>
      refine .tup _ _ (by omega) fun i r' hi => ?_
      have hlt : i < rs.length := by rw [hl]; exact (List.getElem?_eq_some_iff.1 hi).1
      exact ih i _ r' (List.getElem?_eq_getElem hlt) hi (q3 i _ (List.getElem?_eq_getElem hlt))
end restrict

/-- The call answers r and leaves the heap h'. -/
def AE (P : Program) (f : Nat) (vs : List AV) (h : AHeap) (r : AV) (h' : AHeap) : Prop := AC P f vs h fun r1 h1 => r1 = r ∧ h1 = h'

/-- A function that only computes: the heap is as it was. -/
theorem AE.pure {r : AV} (hfn : FnIs P f N cc rcs) (hn : vs.length ≤ N)
    (hw : AW P N cc (fun ex e h1 => (ex = .ret ∨ ex = .normal) ∧ Keeps h h1 ∧ ∃ rs, resA h1.get e rcs = some rs ∧ Fz h h1 (fin rs) r) (argE 0 vs) h) : AE P f vs h r h := by
  have hac : AC P f vs h (fun r1 h1 => Keeps h h1 ∧ Fz h h1 r1 r) :=
    AC.intro hfn hn (hw.mono fun ex e h1 ⟨q1, q2, rs, q3, q4⟩ => ⟨q1, rs, q3, q2, q4⟩)
  intro m w cargs hr hl hv
  refine (hac m w cargs hr hl hv).mono fun ex w' ⟨v, m', r1, h1, e1, g1, g2, g3, hk, hz⟩ => ?_
  have hs : ∀ id x, h.get id = some x → h1.get id = some x := fun id x hg => (hk.2 id (hr.live id x hg)).trans hg
  exact ⟨v, m', r, h, e1, back_hr hr g1 hs, hz.vr g1 hs hr.live g2, back_step g3 hr hs, rfl, rfl⟩
end
end Go.Abs
