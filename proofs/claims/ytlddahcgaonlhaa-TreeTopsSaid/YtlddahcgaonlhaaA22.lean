/- The abstract layer, part 22: what a law is handed: values read off the world. -/
import Derived.Test.YtlddahcgaonlhaaA21
import Derived.ProofKit
import Derived.OpenShut
import Derived.ChangeOld
import Derived.Below
import Derived.Carry
set_option linter.all false
namespace Go.Abs
open Go

/-- A cell's kind. -/
inductive CS where
  | i (k : IntKind)
  | b
  | s
  | sl (row : List CS)
  deriving Inhabited
inductive Typ : CS → AV → Prop
  | i (k : IntKind) (n : Int) (hw : (Lit.int k n).wf = true) : Typ (.i k) (.int k n)
  | b (t : Bool) : Typ .b (.bool t)
  | s (l : List UInt8) (hl : l.length ≤ maxLen) : Typ .s (.str l)
  | sl (row : List CS) (c : List (List AV)) (hl : c.length ≤ maxLen) (hc : ∀ cells ∈ c, cells.length = row.length) (ht : ∀ cells ∈ c, ∀ (j : Nat) (cs : CS) (v : AV), row[j]? = some cs → cells[j]? = some v → Typ cs v) : Typ (.sl row) (.imm row.length c)
def TypL (row : List CS) (cells : List AV) : Prop := cells.length = row.length ∧ ∀ (j : Nat) (cs : CS) (v : AV), row[j]? = some cs → cells[j]? = some v → Typ cs v

theorem Typ.int_inv {k : IntKind} {v : AV} (h : Typ (.i k) v) : ∃ n, v = .int k n ∧ (Lit.int k n).wf = true := by cases h with | i _ n hw => exact ⟨n, rfl, hw⟩
theorem Typ.bool_inv {v : AV} (h : Typ .b v) : ∃ t, v = .bool t := by cases h with | b t => exact ⟨t, rfl⟩
theorem Typ.str_inv {v : AV} (h : Typ .s v) : ∃ l, v = .str l ∧ l.length ≤ maxLen := by cases h with | s l hl => exact ⟨l, rfl, hl⟩
theorem Typ.sl_inv {row : List CS} {v : AV} (h : Typ (.sl row) v) : ∃ c, v = .imm row.length c ∧ c.length ≤ maxLen ∧ ∀ cells ∈ c, TypL row cells := by
  cases h with | sl _ c hl hc ht => exact ⟨c, rfl, hl, fun cells hm => ⟨hc cells hm, ht cells hm⟩⟩
theorem TypL.nil_inv {cells : List AV} (h : TypL [] cells) : cells = [] := List.length_eq_zero_iff.1 h.1
theorem TypL.cons_inv {c : CS} {row : List CS} {cells : List AV} (h : TypL (c :: row) cells) : ∃ v vs, cells = v :: vs ∧ Typ c v ∧ TypL row vs := by
  obtain ⟨h1, h2⟩ := h
  cases cells with
  | nil => simp at h1
  | cons v vs => exact ⟨v, vs, rfl, h2 0 c v rfl rfl, by simpa using h1, fun j cs u hj hu => h2 (j + 1) cs u (by simpa using hj) (by simpa using hu)⟩
theorem TypL.cons {c : CS} {row : List CS} {v : AV} {vs : List AV} (h1 : Typ c v) (h2 : TypL row vs) : TypL (c :: row) (v :: vs) :=
  ⟨by simp [h2.1], fun j cs u hj hu => by
    cases j with
    | zero => simp at hj hu; subst hj; subst hu; exact h1
    | succ j => exact h2.2 j cs u (by simpa using hj) (by simpa using hu)⟩
theorem TypL.append {r1 r2 : List CS} {v1 v2 : List AV} (h1 : TypL r1 v1) (h2 : TypL r2 v2) : TypL (r1 ++ r2) (v1 ++ v2) :=
  ⟨by simp [h1.1, h2.1], fun j cs u hj hu => by
    by_cases hlt : j < r1.length
    · rw [List.getElem?_append_left hlt] at hj
      rw [List.getElem?_append_left (by rw [h1.1]; exact hlt)] at hu
      exact h1.2 j cs u hj hu
    · rw [List.getElem?_append_right (by omega)] at hj
      rw [List.getElem?_append_right (by rw [h1.1]; omega), h1.1] at hu
      exact h2.2 _ cs u hj hu⟩
/-- A row of rows, as a list of things. -/
theorem map_of {α : Type} {f : α → List AV} {p : List AV → Prop} (hp : ∀ cells, p cells → ∃ a, cells = f a) : ∀ {c : List (List AV)}, (∀ cells ∈ c, p cells) → ∃ l : List α, c = l.map f
  | [], _ => ⟨[], rfl⟩
  | x :: c, h => by
    obtain ⟨a, ha⟩ := hp x (h x (by simp))
    obtain ⟨l, hl⟩ := map_of hp (c := c) fun y hy => h y (by simp [hy])
    exact ⟨a :: l, by simp [ha, hl]⟩

/-- The kinds of a type's cells. -/
def csF (cs : TypeId → Option (List CS)) (P : Program) : Nat → List Field → Option (List CS)
  | _, [] => some []
  | o, f :: fs => match cs f.type with
    | some row => if f.offset = o ∧ P.cellsOf f.type = row.length then (csF cs P (o + row.length) fs).map (row ++ ·) else none
    | none => none
def csN (row : List CS) : Nat → List CS
  | 0 => []
  | n + 1 => row ++ csN row n
def csOf (P : Program) : Nat → TypeId → Option (List CS)
  | 0, _ => none
  | d + 1, t => match P.underlying t with
    | some (.int k) => some [.i k]
    | some .bool => some [.b]
    | some .string => some [.s]
    | some (.slice e) => match csOf P d e with
      | some row => if 0 < row.length ∧ P.cellsOf e = row.length then some [.sl row] else none
      | none => none
    | some (.struct fs) => match csF (csOf P d) P 0 fs.toList with
      | some row => if P.cellsOf t = row.length then some row else none
      | none => none
    | some (.array n e) => match csOf P d e with
      | some row => if P.cellsOf e = row.length ∧ P.cellsOf t = n * row.length then some (csN row n) else none
      | none => none
    | _ => none
theorem csN_length {row : List CS} : ∀ n, (csN row n).length = n * row.length
  | 0 => by simp [csN]
  | n + 1 => by simp [csN, csN_length n, Nat.add_mul]; omega

section
variable {H : Type} {enc : TypeId × Value → H} {P : Program} {w : World} {base : Nat} {spare : Nat → Bool} {held : Bool} {m : Inj} {h : AHeap}

/-- Cells that read as avs. -/
def RdC (m : Inj) (h : AHeap) (w : World) (row : List CS) (cs : List Value) : Prop :=
  cs.length = row.length ∧ ∃ avs, TypL row avs ∧ ∀ (j : Nat) (v : AV), avs[j]? = some v → VR m h w v (cs.getD j undef)
theorem Typ.scalar {c : CS} {v : AV} (h : Typ c v) : v.scalar = true := by cases h <;> rfl
theorem TypL.scalar {row : List CS} {cells : List AV} (h : TypL row cells) : ∀ v ∈ cells, v.scalar = true := fun v hv => by
  obtain ⟨j, hj⟩ := List.getElem?_of_mem hv
  have hlt : j < row.length := by rw [← h.1]; exact (List.getElem?_eq_some_iff.1 hj).1
  exact (h.2 j _ v (List.getElem?_eq_getElem hlt) hj).scalar

theorem RdC.append {r1 r2 : List CS} {c1 c2 : List Value} (h1 : RdC m h w r1 c1) (h2 : RdC m h w r2 c2) : RdC m h w (r1 ++ r2) (c1 ++ c2) := by
  obtain ⟨l1, a1, t1, v1⟩ := h1
  obtain ⟨l2, a2, t2, v2⟩ := h2
  refine ⟨by simp [l1, l2], a1 ++ a2, t1.append t2, fun j v hj => ?_⟩
  by_cases hlt : j < a1.length
  · rw [List.getElem?_append_left hlt] at hj
    have := v1 j v hj
    rw [List.getD_eq_getElem?_getD, List.getElem?_append_left (by rw [l1, ← t1.1]; exact hlt), ← List.getD_eq_getElem?_getD]
    exact this
  · rw [List.getElem?_append_right (by omega)] at hj
    have := v2 _ v hj
    rw [List.getD_eq_getElem?_getD, List.getElem?_append_right (by rw [l1, ← t1.1]; omega), l1, ← t1.1, ← List.getD_eq_getElem?_getD]
    exact this

theorem choice {α : Type} {Good : Nat → α → Prop} : ∀ n, (∀ i, i < n → ∃ x, Good i x) → ∃ l : List α, l.length = n ∧ ∀ (i : Nat) (x : α), l[i]? = some x → Good i x
  | 0, _ => ⟨[], rfl, fun i x hx => by simp at hx⟩
  | n + 1, hg => by
    obtain ⟨l, hl, hi⟩ := choice n fun i hi => hg i (by omega)
    obtain ⟨x, hx⟩ := hg n (by omega)
    refine ⟨l ++ [x], by simp [hl], fun i y hy => ?_⟩
    by_cases hlt : i < l.length
    · rw [List.getElem?_append_left hlt] at hy; exact hi i y hy
    · have hlt2 := (List.getElem?_eq_some_iff.1 hy).1
      simp at hlt2
      have : i = n := by omega
      subst this
      rw [List.getElem?_append_right (by omega), hl] at hy
      simp at hy
      subst hy; exact hx

theorem rd_fields (hown : ∀ b o, ¬ Own m h b o) {csd : TypeId → Option (List CS)} {n : Nat} (ih : ∀ t row cs x, csd t = some row → DataW.trod enc P w base spare held n t cs = some x → RdC m h w row cs) {cs : List Value} :
    ∀ (fs : List Field) (o : Nat) (row : List CS), csF csd P o fs = some row → o + row.length ≤ cs.length → (∀ f ∈ fs, ∃ x, DataW.trod enc P w base spare held n f.type ((cs.drop f.offset).take (P.cellsOf f.type)) = some x) → RdC m h w row ((cs.drop o).take row.length)
  | [], o, row, hc, _, _ => by simp [csF] at hc; subst hc; exact ⟨by simp, [], ⟨rfl, by simp⟩, by simp⟩
  | f :: fs, o, row, hc, hl, hx => by
    simp only [csF] at hc
    split at hc
    · rename_i r1 hr1
      split at hc
      · rename_i hcond
        obtain ⟨ho, hcell⟩ := hcond
        rw [Option.map_eq_some_iff] at hc
        obtain ⟨r2, hr2, rfl⟩ := hc
        obtain ⟨x, hx1⟩ := hx f (by simp)
        have h1 := ih _ _ _ _ hr1 hx1
        rw [ho, hcell] at h1
        have h2 := rd_fields hown ih fs (o + r1.length) r2 hr2 (by simp at hl; omega) fun g hg => hx g (by simp [hg])
        have : (cs.drop o).take (r1 ++ r2).length = (cs.drop o).take r1.length ++ (cs.drop (o + r1.length)).take r2.length := by
          rw [List.length_append, List.take_add, List.drop_drop]
        rw [this]
        exact h1.append h2
      · cases hc
    · cases hc
theorem rd_elems {csd : List CS} {cs : List Value} : ∀ (k o : Nat), o + k * csd.length ≤ cs.length → (∀ i, i < k → RdC m h w csd ((cs.drop (o + i * csd.length)).take csd.length)) → RdC m h w (csN csd k) ((cs.drop o).take (k * csd.length))
  | 0, o, _, _ => by simp [csN]; exact ⟨by simp, [], ⟨rfl, by simp⟩, by simp⟩
  | k + 1, o, hl, hx => by
    have h1 := hx 0 (by omega)
    have h2 := rd_elems (csd := csd) (cs := cs) k (o + csd.length) (by rw [Nat.add_mul] at hl; omega) fun i hi => by
      have := hx (i + 1) (by omega)
      rwa [Nat.add_mul, Nat.one_mul, Nat.add_comm (i * csd.length), ← Nat.add_assoc] at this
    have e : (cs.drop o).take ((k + 1) * csd.length) = (cs.drop o).take csd.length ++ (cs.drop (o + csd.length)).take (k * csd.length) := by
      rw [Nat.add_mul, Nat.one_mul, Nat.add_comm, List.take_add, List.drop_drop]
    rw [e]
    simp only [Nat.zero_mul, Nat.add_zero] at h1
    exact h1.append h2

theorem addr_add (b o n : Nat) : (⟨b, o, none⟩ : Addr).add n = ⟨b, o + n, none⟩ := by
  unfold Addr.add
  split
  · rename_i e; have : n = 0 := by simpa using e
    subst this; rfl
  · rfl
theorem rd_trod (hown : ∀ b o, ¬ Own m h b o) : ∀ (d : Nat) (t : TypeId) (row : List CS) (n : Nat) (cs : List Value) (x : DataW H × List MemPlace), csOf P d t = some row → DataW.trod enc P w base spare held n t cs = some x → RdC m h w row cs
  | 0, _, _, _, _, _, hc, _ => by simp [csOf] at hc
  | d + 1, t, row, n, cs, x, hc, hx => by
    have one : ∀ (c : CS) (v : AV) (u : Value), Typ c v → VR m h w v u → RdC m h w [c] [u] := fun c v u h1 h2 =>
      ⟨rfl, [v], ⟨rfl, fun j cs' v' hj hv => by
        cases j with
        | zero => simp at hj hv; subst hj; subst hv; exact h1
        | succ j => simp at hj⟩, fun j v' hv => by
        cases j with
        | zero => simp at hv; subst hv; simpa using h2
        | succ j => simp at hv⟩
    simp only [csOf] at hc
    split at hc
    · rename_i k ht
      cases hc
      obtain ⟨z, rfl, _, hw⟩ := DataW.trod_int ht hx
      exact one _ _ _ (.i k z hw) (.int k z)
    · rename_i ht
      cases hc
      obtain ⟨z, rfl, _⟩ := DataW.trod_bool ht hx
      exact one _ _ _ (.b z) (.bool z)
    · rename_i ht
      cases hc
      obtain ⟨z, rfl, _, hl⟩ := DataW.trod_string ht hx
      exact one _ _ _ (.s z.data.toList (by simpa using hl)) (.str z.data.toList)
    · rename_i e ht
      split at hc
      · rename_i er her
        split at hc
        · rename_i hcond
          obtain ⟨hpos, hcell⟩ := hcond
          cases hc
          rcases DataW.trod_slice ht hx with ⟨rfl, _⟩ | ⟨a, len, cap, elems, rest, n', rfl, rfl, _, hb, hl, hm, hlen, hel, _, _⟩
          · exact one _ _ _ (.sl er [] (by simp) (by simp) (by simp)) (.imm0 _)
          · rcases Nat.eq_zero_or_pos len with h0 | h0
            · subst h0
              exact one _ _ _ (.sl er [] (by simp) (by simp) (by simp)) (.imm1 _ _ _)
            · have hspot : a.spot = none := by
                have h1 := hel 0 h0
                rw [List.getElem?_eq_getElem (by omega), Option.bind_eq_some_iff] at h1
                obtain ⟨ci, hci, htr⟩ := h1
                obtain ⟨_, q1, hcell2⟩ := World.cells?_some hci
                have h2 := hcell2 0 (by omega)
                rw [List.getElem?_eq_getElem (by omega)] at h2
                have h3 := World.cell?_spot h2
                have e0 : ∀ a : Addr, a.add 0 = a := fun a => by simp [Addr.add]
                rwa [Nat.zero_mul, e0, e0] at h3
              obtain ⟨ab, ao, asp⟩ := a
              simp only at hspot
              subst hspot
              have each : ∀ i, i < len → ∃ cells : List AV, TypL er cells ∧ ∀ j, j < er.length → ∃ u, w.cell? ⟨ab, ao + (i * er.length + j), none⟩ = some u ∧ ∀ v, cells[j]? = some v → VR m h w v u := fun i hi => by
                have h1 := hel i hi
                rw [List.getElem?_eq_getElem (by omega), Option.bind_eq_some_iff] at h1
                obtain ⟨ci, hci, htr⟩ := h1
                obtain ⟨q1, avs, q2, q3⟩ := rd_trod hown d e er n' ci _ her htr
                obtain ⟨_, _, hcell2⟩ := World.cells?_some hci
                refine ⟨avs, q2, fun j hj => ?_⟩
                have h2 := hcell2 j (by rw [hcell]; exact hj)
                rw [List.getElem?_eq_getElem (by omega), addr_add, addr_add, hcell, Nat.add_assoc] at h2
                refine ⟨ci[j], h2, fun v hv => ?_⟩
                have := q3 j v hv
                rwa [List.getD_eq_getElem?_getD, List.getElem?_eq_getElem (by omega)] at this
              obtain ⟨c, hcl, hcg⟩ := choice len each
              have hmem : ∀ cells ∈ c, TypL er cells := fun cells hm => by
                obtain ⟨i, hi⟩ := List.getElem?_of_mem hm
                exact (hcg i cells hi).1
              refine one _ _ _ (.sl er c (by omega) (fun cells hm => (hmem cells hm).1) fun cells hm => (hmem cells hm).2) ?_
              rw [← hcl]
              refine VR.imm er.length c ab ao cap (fun k => (w.cell? ⟨ab, ao + k, none⟩).getD undef) (fun k hk => ⟨?_, hown _ _⟩) (fun cells hm => (hmem cells hm).1) (fun cells hm => (hmem cells hm).scalar) (fun i cells hi j v hj => ?_) (by omega)
              · have hk' : k / er.length < len := by
                  rw [hcl] at hk
                  exact Nat.div_lt_of_lt_mul (by rw [Nat.mul_comm]; exact hk)
                have hlt : k / er.length < c.length := by omega
                obtain ⟨u, hu, _⟩ := (hcg _ _ (List.getElem?_eq_getElem hlt)).2 (k % er.length) (Nat.mod_lt _ hpos)
                rw [Nat.mul_comm, Nat.div_add_mod] at hu
                simp only [hu, Option.getD_some]
              · have ht := (hcg i cells hi)
                have hj' : j < er.length := by rw [← ht.1.1]; exact (List.getElem?_eq_some_iff.1 hj).1
                obtain ⟨u, hu, hv⟩ := ht.2 j hj'
                show VR m h w v ((w.cell? ⟨ab, ao + (i * er.length + j), none⟩).getD undef)
                rw [hu]
                exact hv v hj
        · cases hc
      · cases hc
    · rename_i fs ht
      split at hc
      · rename_i r hr
        split at hc
        · rename_i hcell
          cases hc
          obtain ⟨xs, n', rfl, _, hcl, hxl, hf⟩ := DataW.trod_struct ht hx
          have := rd_fields hown (csd := csOf P d) (n := n') (fun t row cs x h1 h2 => rd_trod hown d t row n' cs x h1 h2) (cs := cs) fs.toList 0 row hr (by omega) fun f hf' => by
            obtain ⟨i, hi⟩ := List.getElem?_of_mem hf'
            have hi' : fs[i]? = some f := by simpa using hi
            have hlt : i < xs.length := by rw [hxl]; exact (Array.getElem?_eq_some_iff.1 hi').1
            exact ⟨xs[i], by rw [hf i f hi', List.getElem?_eq_getElem hlt]⟩
          rw [List.drop_zero, List.take_of_length_le (by omega)] at this
          exact this
        · cases hc
      · cases hc
    · rename_i k e ht
      split at hc
      · rename_i r hr
        split at hc
        · rename_i hcond
          obtain ⟨hcell, hcellt⟩ := hcond
          cases hc
          obtain ⟨xs, n', rfl, _, hcl, hxl, hf⟩ := DataW.trod_array ht hx
          have := rd_elems (m := m) (h := h) (w := w) (csd := r) (cs := cs) k 0 (by omega) fun i hi => by
            have h1 := hf i hi
            rw [List.getElem?_eq_getElem (by omega), hcell] at h1
            rw [Nat.zero_add]
            exact rd_trod hown d e r n' _ _ hr h1
          rw [List.drop_zero, List.take_of_length_le (by omega)] at this
          exact this
        · cases hc
      · cases hc
    · cases hc

/-- The empty heap. -/
def noHeap : AHeap := ⟨fun _ => none, 0, fun _ => false⟩
theorem noOwn (m : Inj) (b o : Nat) : ¬ Own m noHeap b o := fun ⟨_, _, ⟨_, hx⟩, _⟩ => by cases hx
theorem noHR (m : Inj) (w : World) : HR m noHeap w := ⟨(fun _ h => nomatch h), (fun _ _ h => nomatch h), (fun _ _ _ _ _ _ _ h => nomatch h), (fun _ _ h => nomatch h)⟩
theorem Step.below {m' : Inj} {h' : AHeap} {w' : World} (s : Step m noHeap w m' h' w') : RowKit.Below w.heap.size w w' :=
  ⟨s.os, s.tape, s.output, s.size, fun k hk => (s.free k hk fun _ _ _ hg => by cases hg).1⟩

/-- An argument, read. -/
theorem rd_arg {d : Nat} {t : TypeId} {row : List CS} {v : Value} {x : DataW H} {ps : List MemPlace} {r : _root_.Go.Reach} {b0 : Nat} (hc : csOf P d t = some row) (hx : DataW.Trod enc P w base spare held t v x ps) (hv : Value.okWide P w r b0 t v) :
    ∃ avs, TypL row avs ∧ VR (fun _ => none) noHeap w (match P.underlying t with | some (.struct _) | some (.array _ _) => .agg avs | _ => avs.headD .nilp) v := by
  obtain ⟨fuel, hf⟩ := hx
  obtain ⟨hl, avs, ht, hvr⟩ := rd_trod (m := fun _ => none) (h := noHeap) (noOwn _) d t row fuel _ _ hc hf
  have agg : ∀ cs : Array Value, v = .agg cs → VR (fun _ => none) noHeap w (.agg avs) v := fun cs e => by
    subst e
    simp only [Value.cells] at hl hvr
    refine .agg avs cs (by rw [ht.1, ← hl]; simp) ht.scalar fun i u hu => ?_
    have := hvr i u hu
    simpa [Array.getD_eq_getD_getElem?, List.getD_eq_getElem?_getD] using this
  have sc : row.length = 1 → (∀ cs, v ≠ .agg cs) → VR (fun _ => none) noHeap w (avs.headD .nilp) v := fun h1 hn => by
    have : v.cells = #[v] := by
      cases v <;> first
        | rfl
        | exact absurd rfl (hn _)
    rw [this] at hvr hl
    cases avs with
    | nil => have := ht.1; simp at this; omega
    | cons a avs => simpa using hvr 0 a rfl
  cases d with
  | zero => simp [csOf] at hc
  | succ d =>
    simp only [csOf] at hc
    split at hc
    · rename_i k hu
      cases hc
      obtain ⟨n, rfl⟩ := WideShapes.okWide_int hu hv
      simp only [hu]
      exact ⟨avs, ht, sc rfl (by intro cs h; cases h)⟩
    · rename_i hu
      cases hc
      obtain ⟨n, rfl⟩ := WideShapes.okWide_bool hu hv
      simp only [hu]
      exact ⟨avs, ht, sc rfl (by intro cs h; cases h)⟩
    · rename_i hu
      cases hc
      obtain ⟨n, rfl⟩ := WideShapes.okWide_string hu hv
      simp only [hu]
      exact ⟨avs, ht, sc rfl (by intro cs h; cases h)⟩
    · rename_i e hu
      obtain ⟨a, len, cap, rfl⟩ := WideShapes.okWide_slice hu hv
      split at hc
      · split at hc
        · cases hc
          simp only [hu]
          exact ⟨avs, ht, sc rfl (by intro cs h; cases h)⟩
        · cases hc
      · cases hc
    · rename_i fs hu
      obtain ⟨cs, rfl, _⟩ := WideShapes.okWide_struct hu hv
      simp only [hu]
      exact ⟨avs, ht, agg cs rfl⟩
    · rename_i k e hu
      have hv' := hv
      simp only [Value.okWide, hu] at hv'
      obtain ⟨cs, rfl, _⟩ := hv'
      simp only [hu]
      exact ⟨avs, ht, agg cs rfl⟩
    · cases hc
/-- A law that holds. -/
theorem law_calls {f : Nat} {avs : List AV} {vs : Array Value} {W : World} (hac : AE P f avs noHeap (.bool true) noHeap) (hl : avs.length = vs.size) (hv : ∀ (i : Nat) (v : AV), avs[i]? = some v → VR (fun _ => none) noHeap W v (vs.getD i undef)) :
    Calls P f vs W fun e W' => e = .returned (.bool true) ∧ RowKit.Below W.heap.size W W' := by
  refine (hac _ W vs (noHR _ W) hl hv).mono fun ex W' ⟨v, m', r, h', e1, g1, g2, g3, e2, e3⟩ => ?_
  subst e2
  have := vr_bool g2
  subst this
  exact ⟨e1, g3.below⟩
end
end Go.Abs
