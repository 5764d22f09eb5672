/- The abstract layer, part 2: operands, environments, what is read behind a pointer or a slice. -/
import Derived.Test.YtlddahcgaonlhaaA1
set_option linter.all false
namespace Go.Abs
open Go

inductive Opd where
  | t (n : Nat)
  | c (v : AV)
  deriving Inhabited
abbrev Env := List (Nat × Option AV)
def lk (i : Nat) : Env → Option AV
  | [] => none
  | (j, v) :: e => match Nat.beq i j with
    | true => v
    | false => lk i e
theorem lk_nil {i : Nat} : lk i [] = none := rfl
theorem lk_cons {i j : Nat} {v : Option AV} {e : Env} : lk i ((j, v) :: e) = if i = j then v else lk i e := by
  show (match Nat.beq i j with | true => v | false => lk i e) = _
  cases h : Nat.beq i j with
  | true => rw [if_pos (Nat.eq_of_beq_eq_true h)]
  | false => rw [if_neg (Nat.ne_of_beq_eq_false h)]
def ev (e : Env) : Opd → Option AV
  | .t n => lk n e
  | .c v => some v
def evL (e : Env) : List Opd → Option (List AV)
  | [] => some []
  | x :: xs => match ev e x, evL e xs with
    | some v, some vs => some (v :: vs)
    | _, _ => none

structure ER (N : Nat) (m : Inj) (h : AHeap) (w : World) (e : Env) (a : Act) : Prop where
  size : a.tmps.size = N
  defers : a.defers = []
  val : ∀ i v, lk i e = some v → VR m h w v (a.tmps.getD i undef)

def ofV : Value → Option AV
  | .bool b => some (.bool b)
  | .int k n => some (.int k n)
  | .string s => some (.str s.data.toList)
  | .pointer none => some .nilp
  | .slice none 0 0 => some .nils
  | .map none => some .nilm
  | .nilFunc => some .nilf
  | .nilIface => some .nili
  | _ => none
def ofOpd (N : Nat) : Operand → Option Opd
  | .tmp t => if t < N then some (.t t) else none
  | .const v => (ofV v).map .c
  | .func f => some (.c (.func (.func f) [] []))
  | .global _ => none
def ofL {α β : Type} (f : α → Option β) : List α → Option (List β)
  | [] => some []
  | x :: xs => match f x, ofL f xs with
    | some v, some vs => some (v :: vs)
    | _, _ => none

section
variable {P : Program} {N : Nat} {m : Inj} {h : AHeap} {w : World} {e : Env} {a : Act}

theorem ofV_vr {c : Value} {v : AV} (hc : ofV c = some v) : VR m h w v c := by
  unfold ofV at hc
  split at hc <;> cases hc
  · exact .bool _
  · exact .int _ _
  · rename_i s; exact .str s.data.toList
  · exact .nilp
  · exact .nils0
  · exact .nilm
  · exact .nilf
  · exact .nili
theorem ofV_scalar {c : Value} {v : AV} (hc : ofV c = some v) : v.scalar = true := by
  unfold ofV at hc
  split at hc <;> cases hc <;> rfl

theorem ER.eval (he : ER N m h w e a) {x : Operand} {o : Opd} (ho : ofOpd N x = some o) {v : AV} (hv : ev e o = some v) : VR m h w v (a.eval x) := by
  cases x with
  | tmp t =>
    simp only [ofOpd] at ho
    split at ho
    · cases ho; exact he.val t v hv
    · cases ho
  | const c =>
    simp only [ofOpd] at ho
    cases hc : ofV c with
    | none => simp [hc] at ho
    | some u => simp [hc] at ho; subst ho; cases hv; exact ofV_vr hc
  | func f => simp only [ofOpd] at ho; cases ho; cases hv; exact .func (.func f) [] [] #[] #[] rfl rfl (by simp) (by simp)
  | global g => simp [ofOpd] at ho

theorem ER.evalL (he : ER N m h w e a) : ∀ {xs : List Operand} {os : List Opd}, ofL (ofOpd N) xs = some os → ∀ {vs : List AV}, evL e os = some vs →
    vs.length = xs.length ∧ ∀ i v, vs[i]? = some v → VR m h w v ((xs.map a.eval).getD i undef) := by
  intro xs
  induction xs with
  | nil => intro os ho vs hv; simp [ofL] at ho; subst ho; simp [evL] at hv; subst hv; simp
  | cons x xs ih =>
    intro os ho vs hv
    simp only [ofL] at ho
    split at ho
    · rename_i o os' h1 h2
      cases ho
      simp only [evL] at hv
      split at hv
      · rename_i v vs' g1 g2
        cases hv
        obtain ⟨e1, e2⟩ := ih h2 g2
        refine ⟨by simp [e1], fun i u hu => ?_⟩
        cases i with
        | zero => simp at hu; subst hu; simpa using he.eval h1 g1
        | succ i => simp at hu; simpa using e2 i u hu
      · cases hv
    · cases ho

theorem ER.step {m' : Inj} {h' : AHeap} {w' : World} (s : Step m h w m' h' w') (he : ER N m h w e a) : ER N m' h' w' e a :=
  ⟨he.size, he.defers, fun i v hv => (he.val i v hv).step s⟩
theorem ER.put (he : ER N m h w e a) {d : Nat} (hd : d < N) {v : AV} {c : Value} (hv : VR m h w v c) : ER N m h w ((d, some v) :: e) (a.put (some d) c) := by
  refine ⟨by simp [Act.put, he.size], he.defers, fun i u hu => ?_⟩
  simp only [lk_cons, lk_nil] at hu
  split at hu
  · rename_i hi; subst hi; cases hu
    simp only [Act.put, Array.getD_eq_getD_getElem?]
    rw [Array.getElem?_setIfInBounds_self_of_lt (by rw [he.size]; exact hd)]
    exact hv
  · rename_i hi
    simp only [Act.put, Array.getD_eq_getD_getElem?]
    rw [Array.getElem?_setIfInBounds_ne (fun e => hi e.symm)]
    simpa using he.val i u hu
/-- A slot of which nothing is known. -/
theorem ER.skip (he : ER N m h w e a) (d : Nat) (c : Value) : ER N m h w ((d, none) :: e) (a.put (some d) c) := by
  refine ⟨by simp [Act.put, he.size], he.defers, fun i u hu => ?_⟩
  simp only [lk_cons, lk_nil] at hu
  split at hu
  · cases hu
  · rename_i hi
    simp only [Act.put, Array.getD_eq_getD_getElem?]
    rw [Array.getElem?_setIfInBounds_ne (fun e => hi e.symm)]
    simpa using he.val i u hu
end

/-- What a pointer leads to: the row's cell count, its content, the element, the cell. -/
def rdP (g : Nat → Option AObj) : AV → Option (Nat × List (List AV) × Nat × Nat)
  | .ptr id i off => match g id with
    | some (.mem sz c) => some (sz, c, i, off)
    | _ => none
  | .iptr sz c i off => some (sz, c, i, off)
  | _ => none
/-- What a slice reads as. -/
def rdS (g : Nat → Option AObj) (sz : Nat) : AV → Option (List (List AV))
  | .nils => some []
  | .imm s c => if s = sz then some c else none
  | .app _ _ s c => if s = sz then some c else none
  | .ref id off len => match g id with
    | some (.mem s c) => if s = sz then some ((c.drop off).take len) else none
    | _ => none
  | _ => none
def AV.cs : AV → List AV
  | .agg l => l
  | v => [v]
def getC (sz : Nat) (ag : Bool) (cells : List AV) (off : Nat) : Option AV :=
  if off + sz ≤ cells.length then (if ag then some (.agg ((cells.drop off).take sz)) else cells[off]?) else none
def putC (cells : List AV) (off : Nat) (vs : List AV) : List AV := cells.take off ++ vs ++ cells.drop (off + vs.length)

def aggD : TypeDesc → Bool
  | .struct _ | .array _ _ => true
  | _ => false
/-- A type's cells, and whether its values are aggregates. -/
def tyI (P : Program) (t : TypeId) : Option (Nat × Bool) :=
  match P.info? t, P.underlying t with
  | some i, some d => some (i.size, aggD d)
  | _, _ => none

section
variable {P : Program} {m : Inj} {h : AHeap} {w : World}

theorem rdP_vr (hr : HR m h w) {p : AV} {cp : Value} (hv : VR m h w p cp) {sz i off : Nat} {c : List (List AV)} (hp : rdP h.get p = some (sz, c, i, off)) :
    ∃ ad, cp = .pointer (some ad) ∧ Len sz c ∧ ∀ cells, c[i]? = some cells → ∃ G : Nat → Value, (∀ j, off + j < sz → w.cell? (ad.add j) = some (G j)) ∧ (∀ j v, cells[off + j]? = some v → VR m h w v (G j)) ∧ (∀ v ∈ cells, v.scalar = true) := by
  cases hv <;> simp only [rdP] at hp <;> try (cases hp; done)
  case ptr id i' off' ad hu ha =>
    cases hg : h.get id with
    | none => simp [hg] at hp
    | some x =>
      cases x with
      | mem s c' =>
        simp [hg] at hp
        obtain ⟨rfl, rfl, rfl, rfl⟩ := hp
        obtain ⟨b, hb, rfl⟩ := ha _ _ hg
        obtain ⟨b', cc, T, h1, h2, h3, h4⟩ := hr.obj _ _ hg
        rw [hb] at h1
        cases h1
        refine ⟨_, rfl, h4.1, fun cells hi => ⟨fun j => cc.getD (i' * s + off' + j) undef, fun j hj => ?_, fun j v hv => ?_, h4.2.1 cells (List.mem_of_getElem? hi)⟩⟩
        · have hlt : i' * s + (off' + j) < c'.length * s := idx_lt (List.getElem?_eq_some_iff.1 hi).1 hj
          show w.cell? _ = some (cc.getD _ undef)
          rw [Addr.add_lit, cell_of_row w b _ cc T (0, 0) h2, Array.getD_eq_getD_getElem?]
          rw [Array.getElem?_eq_getElem (by omega)]
          rfl
        · have := h4.2.2 i' cells hi (off' + j) v hv
          simpa [Nat.add_assoc] using this
      | tail _ _ => simp [hg] at hp
      | map es => simp [hg] at hp
  case iptr sz' c' i' off' b o F hic hl hs hrr =>
    simp at hp
    obtain ⟨rfl, rfl, rfl, rfl⟩ := hp
    refine ⟨_, rfl, hl, fun cells hi => ⟨fun j => F (i' * sz' + (off' + j)), fun j hj => ?_, fun j v hv => hrr i' cells hi (off' + j) v hv, hs cells (List.mem_of_getElem? hi)⟩⟩
    have := (hic _ (idx_lt (List.getElem?_eq_some_iff.1 hi).1 hj)).1
    rw [Addr.add_lit]
    rw [← this]
    congr 2
    omega

/-- A slice that reads as c: its cells. -/
theorem rdS_vr (hr : HR m h w) {s : AV} {cs : Value} (hv : VR m h w s cs) {sz : Nat} {c : List (List AV)} (hp : rdS h.get sz s = some c) :
    ∃ ad cap, cs = .slice ad c.length cap ∧ c.length ≤ cap ∧ ∃ F, RowF m h w sz c F ∧ (c ≠ [] → ∃ b o, ad = some ⟨b, o, none⟩ ∧ ∀ k, k < c.length * sz → w.cell? ⟨b, o + k, none⟩ = some (F k)) := by
  cases hv <;> simp only [rdS] at hp <;> try (cases hp; done)
  case nils0 => cases hp; exact ⟨none, 0, rfl, Nat.le_refl _, fun _ => undef, RowF.nil, by simp⟩
  case nils1 ad => cases hp; exact ⟨some ad, 0, rfl, Nat.le_refl _, fun _ => undef, RowF.nil, by simp⟩
  case imm0 s => split at hp <;> cases hp; exact ⟨none, 0, rfl, Nat.le_refl _, fun _ => undef, RowF.nil, by simp⟩
  case imm1 s ad cap => split at hp <;> cases hp; exact ⟨some ad, cap, rfl, Nat.zero_le _, fun _ => undef, RowF.nil, by simp⟩
  case imm s c' b o cap F hic hl hs hrr hc =>
    split at hp
    · rename_i e; subst e; cases hp
      exact ⟨_, cap, rfl, hc, F, ⟨hl, hs, hrr⟩, fun _ => ⟨b, o, rfl, fun k hk => (hic k hk).1⟩⟩
    · cases hp
  case app0 id g s hu ht => split at hp <;> cases hp; exact ⟨none, 0, rfl, Nat.le_refl _, fun _ => undef, RowF.nil, by simp⟩
  case app1 id g s ad hu ht => split at hp <;> cases hp; exact ⟨some ad, 0, rfl, Nat.le_refl _, fun _ => undef, RowF.nil, by simp⟩
  case app id g s c' b cap F hu hic hl hs hrr hc ht =>
    split at hp
    · rename_i e; subst e; cases hp
      exact ⟨_, cap, rfl, hc, F, ⟨hl, hs, hrr⟩, fun _ => ⟨b, 0, rfl, fun k hk => (hic k hk).1⟩⟩
    · cases hp
  case ref id off len cap ad hu hc ha =>
    cases hg : h.get id with
    | none => simp [hg] at hp
    | some x =>
      cases x with
      | mem s c' =>
        simp only [hg] at hp
        split at hp
        · rename_i e; subst e; cases hp
          obtain ⟨b, hb, hle, had, cc, T, hcc, hsz⟩ := ha _ _ hg
          obtain ⟨b', cc', T', h1, h2, h3, h4⟩ := hr.obj _ _ hg
          rw [hb] at h1
          cases h1
          rw [h2] at hcc
          cases hcc
          have hlen : ((c'.drop off).take len).length = len := by simp; omega
          refine ⟨some ad, cap, by rw [hlen], by omega, _, (h4.drop off).take len, fun hne => ?_⟩
          have hl0 : 0 < len := by
            rcases Nat.eq_zero_or_pos len with e | e
            · subst e; simp at hne
            · exact e
          rcases had with h0 | rfl
          · omega
          · refine ⟨b, off * s, rfl, fun k hk => ?_⟩
            rw [cell_of_row w b _ _ _ (0, 0) h2, Array.getD_eq_getD_getElem?]
            have h5 : (off + len) * s ≤ c'.length * s := Nat.mul_le_mul_right _ hle
            rw [Nat.add_mul] at h5
            rw [hlen] at hk
            rw [Array.getElem?_eq_getElem (by omega)]
            rfl
        · cases hp
      | tail _ _ => simp [hg] at hp
      | map es => simp [hg] at hp

theorem vr_cells {v : AV} {c : Value} (hv : VR m h w v c) (hs : ∀ u, v ≠ .tup u) : v.cs.length = c.cells.size ∧ (∀ u ∈ v.cs, u.scalar = true) ∧ ∀ i u, v.cs[i]? = some u → VR m h w u (c.cells.getD i undef) := by
  cases hv
  case agg vs cs hl hsc hvs => exact ⟨hl, hsc, hvs⟩
  case tup vs cs hl hvs => exact absurd rfl (hs vs)
  all_goals
    refine ⟨rfl, fun u hu => ?_, fun i u hu => ?_⟩
    · simp only [AV.cs, List.mem_singleton] at hu; subst hu; rfl
    · cases i with
      | zero => simp only [AV.cs, List.getElem?_cons_zero, Option.some.injEq] at hu; subst hu; simp only [Value.cells]; first | assumption | (constructor <;> assumption) | (constructor; done)
      | succ i => simp [AV.cs] at hu

theorem vr_cells_one {v : AV} {c : Value} (hv : VR m h w v c) (hs : ∀ u, v ≠ .tup u) : ∀ u ∈ c.cells.toList, u.oneCell' = true := by
  obtain ⟨h1, h2, h3⟩ := vr_cells hv hs
  intro u hu
  obtain ⟨i, hi, rfl⟩ := List.mem_iff_getElem.1 hu
  have hlt : i < v.cs.length := by rw [h1]; simpa using hi
  have := h3 i _ (List.getElem?_eq_getElem hlt)
  have h4 := this.scalar_one (h2 _ (List.getElem_mem hlt))
  simpa [Array.getD_eq_getD_getElem?, Array.getElem?_eq_getElem (show i < c.cells.size by simpa using hi)] using h4
end
end Go.Abs
