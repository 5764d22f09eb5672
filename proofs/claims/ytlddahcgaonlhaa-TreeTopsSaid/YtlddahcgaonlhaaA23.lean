/- The abstract layer, part 23: operations beyond the plain ones: maps. -/
import Derived.Test.YtlddahcgaonlhaaA22
import Derived.MapKept
import Derived.Laws.IdiomStrings
set_option linter.all false
namespace Go.Abs
open Go

section
variable {P : Program} {N : Nat} {e e' : Env} {h h' : AHeap} {l : List CI} {Q : Exit → Env → AHeap → Prop}

/-- An operation beyond the plain ones: what it does, in any surrounding that has its slots. -/
def XOK (P : Program) (N : Nat) (x : Ex) (e : Env) (h : AHeap) (r : Option AV) (f : Eff) : Prop :=
  ∀ (o : Oper), compileX P N o = some x → ∀ e2, (∀ s ∈ xslots x, lk s e2 = lk s e) → ∀ (m : Inj) (w : World) (a : Act), HR m h w → ER N m h w e2 a → OpOK P o a m h w h.next r f

theorem FX.raw {d : Option Nat} {x : Ex} {g : Option (Nat × Bool)} {r : Option AV} {f : Eff} (hx : XOK P N x e h r f) (hg : met e g) : FX P N ⟨d, .raw x, g⟩ e h r (f.on h.next h) := by
  intro ops i o ho hc e2 hs m w a K Q hr he hk
  have hraw := compI_raw hc rfl
  rcases compI_ok hc with ⟨hb1, hb2⟩ | ⟨hd, hdst, _, hgd⟩
  · cases hb1
  · obtain ⟨w1, w2⟩ := wanted_of he hgd
    have hi : ∀ s ∈ xslots x, lk s e2 = lk s e := fun s h => hs s (by unfold cslots; split <;> simp [islots, h])
    have hw : Region.wanted o (yielded ops a.tmps) = true := by
      cases g with
      | none => exact w1 rfl
      | some sb =>
        obtain ⟨s, b⟩ := sb
        have hl : lk s e2 = some (.bool b) := (hs s (by simp [cslots])).trans hg
        rw [w2 s b b rfl hl]; simp
    simp only [wpOp, ho]
    rw [if_pos hw]
    left
    obtain ⟨m', w', hr', st, hres⟩ := hx o hraw e2 hi m w a hr he
    have hd' : d = o.dst := hd
    unfold Oper.wp
    cases r with
    | some v =>
      obtain ⟨cv, hrun, hv⟩ := hres
      rw [hrun, Oper.upon_value]
      refine hk m' w' _ hr' ?_ st
      show ER N m' _ w' (putR d (some v) e2) _
      rw [hd']
      exact (he.step st).putR hdst hv
    | none =>
      rw [hres, Oper.upon_skip]
      refine hk m' w' _ hr' ?_ st
      show ER N m' _ w' (putR d none e2) _
      rw [hd']
      exact (he.step st).skipR _ _
/-- One operation of a region in the text's order. -/
theorem AL.fx {c : CI} {r : Option AV} (hx : FX P N c e h r h') (hrest : AL P N l Q (putR c.d r e) h') : AL P N (c :: l) Q e h := by
  intro ops idx hlt hl m w a hr he
  cases idx with
  | nil => simp at hl
  | cons i idx =>
    simp only [List.map_cons, List.cons.injEq] at hl
    obtain ⟨hc, hl⟩ := hl
    have hilt := hlt i (by simp)
    have ho : ops[i]? = some ops[i] := Array.getElem?_eq_getElem hilt
    have hget : ops.getD i default = ops[i] := by simp [hilt]
    rw [hget] at hc
    rw [wpOps_cons]
    refine hx ops i _ ho hc e (fun _ _ => rfl) m w a _ _ hr he fun m' w' a' h1 h2 h3 => ?_
    exact wpOps_mono (fun _ _ _ hp => PA.from h3 hp) idx _ _ (hrest ops idx (fun j hj => hlt j (by simp [hj])) hl m' w' a' h1 h2)

theorem cx_mkmap {o : Oper} (hc : compileX P N o = some .mkmap) : ∃ t, o.op = .makeMap t none := by
  unfold compileX at hc
  split at hc
  all_goals first
    | exact ⟨_, ‹_›⟩
    | (repeat' split at hc
       all_goals first
         | (cases hc; done)
         | (rw [Option.map_eq_some_iff] at hc; obtain ⟨_, _, h⟩ := hc; cases h; done) | contradiction)
theorem XOK.mkmap : XOK P N .mkmap e h (some (.map h.next)) (.new (.map [])) := by
  intro o hc e2 hs m w a hr he
  obtain ⟨t, hop⟩ := cx_mkmap hc
  have hf := next_fresh hr
  have hOR : OR (upd m h.next (some (w.heap.size, 0))) (h.put h.next (.map [])) (w.alloc (.map #[] 0)) h.next (.map []) :=
    ⟨w.heap.size, #[], 0, by simp [upd], (MapKept.heap_alloc w _).1, rfl, by simp⟩
  refine ⟨_, _, hr.put hf (o := .map #[] 0) (t := 0) hOR, step_put hr hf _ _ _, .map (some w.heap.size), ?_, .map _ _ put_used_nm fun _ _ => by simp [upd]⟩
  simp [execOp, hop, Instr.makeMap]

/-! ### looking up -/
def sameK : AV → AV → Option Bool
  | .int k a, .int k' b => if k = k' then some (a == b) else none
  | .str a, .str b => some (a == b)
  | _, _ => none
def findA (k : AV) : List (AV × AV) → Nat → Option (Option (Nat × AV))
  | [], _ => some none
  | (k', v) :: es, i => match sameK k k' with
    | some true => some (some (i, v))
    | some false => findA k es (i + 1)
    | none => none
/-- A map's entries, told. -/
def EntR (m : Inj) (h : AHeap) (w : World) : List (AV × AV) → List MapEntry → Prop
  | [], [] => True
  | (k, v) :: es, c :: cs => VR m h w k c.key ∧ VR m h w v c.val ∧ EntR m h w es cs
  | _, _ => False
def FindR (m : Inj) (h : AHeap) (w : World) : Option (Nat × AV) → Option (Nat × Value) → Prop
  | none, none => True
  | some (i, v), some (j, c) => i = j ∧ VR m h w v c
  | _, _ => False

theorem entR_of {m : Inj} {w : World} : ∀ {es : List (AV × AV)} {cs : List MapEntry}, es.length = cs.length → (∀ (i : Nat) (k v : AV), es[i]? = some (k, v) → VR m h w k (cs.getD i default).key ∧ VR m h w v (cs.getD i default).val) → EntR m h w es cs
  | [], [], _, _ => trivial
  | [], _ :: _, hl, _ => by simp at hl
  | _ :: _, [], hl, _ => by simp at hl
  | (k, v) :: es, c :: cs, hl, hv => ⟨(hv 0 k v rfl).1, (hv 0 k v rfl).2, entR_of (by simpa using hl) fun i k v hi => by simpa using hv (i + 1) k v (by simpa using hi)⟩

def kOK : TypeDesc → AV → Prop
  | .string, .str _ => True
  | .int _, .int _ _ => True
  | _, _ => False
theorem sameNow_of {m : Inj} {w : World} {d : TypeDesc} (hd : d = .string ∨ ∃ k, d = .int k) {a b : AV} {ca cb : Value} (ha : VR m h w a ca) (hb : VR m h w b cb) {r : Bool} (hk : kOK d a) (hs : sameK a b = some r) : Instr.sameNow d ca cb = some r := by
  rcases hd with rfl | ⟨k, rfl⟩
  · cases a <;> simp only [kOK] at hk
    cases b <;> simp only [sameK] at hs <;> try (cases hs; done)
    cases ha; cases hb
    rename_i x y
    simp only [Instr.sameNow]
    injection hs with hs
    rw [← hs]
    congr 1
    by_cases e : x = y
    · subst e; rw [(MapKept.bytes_beq _ _).2 rfl]; simp
    · have e1 : (x == y) = false := by simp [e]
      rw [e1]
      cases e2 : ((⟨x.toArray⟩ : ByteArray) == ⟨y.toArray⟩)
      · rfl
      · have := (MapKept.bytes_beq _ _).1 e2
        injection this with this
        exact absurd (by simpa using congrArg Array.toList this) e
  · cases a <;> simp only [kOK] at hk
    cases b <;> simp only [sameK] at hs <;> try (cases hs; done)
    cases ha; cases hb
    simp only [Instr.sameNow]
    exact hs
theorem findNow_of {m : Inj} {w : World} {d : TypeDesc} (hd : d = .string ∨ ∃ k, d = .int k) {a : AV} {ca : Value} (ha : VR m h w a ca) (hk : kOK d a) :
    ∀ {es : List (AV × AV)} {cs : List MapEntry} {i : Nat} {r : Option (Nat × AV)}, EntR m h w es cs → findA a es i = some r → ∃ rr, Instr.findNow d ca cs i = some rr ∧ FindR m h w r rr
  | [], [], i, r, _, hf => by cases hf; exact ⟨none, rfl, trivial⟩
  | [], _ :: _, _, _, he, _ => he.elim
  | _ :: _, [], _, _, he, _ => he.elim
  | (k, v) :: es, c :: cs, i, r, ⟨h1, h2, h3⟩, hf => by
    simp only [findA] at hf
    split at hf
    · rename_i hs
      cases hf
      exact ⟨some (i, c.val), by simp only [Instr.findNow, sameNow_of hd ha h1 hk hs], rfl, h2⟩
    · rename_i hs
      obtain ⟨rr, q1, q2⟩ := findNow_of hd ha hk h3 hf
      exact ⟨rr, by simp only [Instr.findNow, sameNow_of hd ha h1 hk hs, q1], q2⟩
    · cases hf

theorem cx_look {o : Oper} {mk : MK} {z : AV} {ok : Bool} {x y : Opd} (hc : compileX P N o = some (.look mk z ok x y)) :
    ∃ t kt et mo ko i zv, o.op = .lookup t mo ko ok ∧ P.underlying t = some (.map kt et) ∧ ofOpd N mo = some x ∧ ofOpd N ko = some y ∧ mkind P kt = some mk ∧ P.info? et = some i ∧ i.zero = some zv ∧ ofV zv = some z := by
  unfold compileX at hc
  split at hc
  case h_2 t mo ko ok' hop =>
    repeat' split at hc
    all_goals first
      | (cases hc; done)
      | (cases hc; exact ⟨_, _, _, _, _, _, _, hop, ‹_›, ‹_›, ‹_›, ‹_›, ‹_›, ‹_›, ‹_›⟩)
  all_goals
    (repeat' split at hc
     all_goals first
       | (cases hc; done)
       | (rw [Option.map_eq_some_iff] at hc; obtain ⟨_, _, h⟩ := hc; cases h; done) | contradiction)

/-- What a lookup answers. -/
def lookR (z : AV) (ok : Bool) (r : Option (Nat × AV)) : AV :=
  if ok then .tup [(r.map (·.2)).getD z, .bool r.isSome] else (r.map (·.2)).getD z
def keyOK : MK → AV → Prop
  | .i, .int _ _ => True
  | .s, .str _ => True
  | _, _ => False
theorem mkind_i {t : TypeId} (hk : mkind P t = some .i) : ∃ k, P.underlying t = some (.int k) := by
  unfold mkind at hk
  repeat' split at hk
  all_goals first
    | exact ⟨_, ‹_›⟩
    | (rw [Option.map_eq_some_iff] at hk; obtain ⟨_, _, h⟩ := hk; cases h; done)
    | (cases hk; done)
theorem mkind_s {t : TypeId} (hk : mkind P t = some .s) : P.underlying t = some .string := by
  unfold mkind at hk
  repeat' split at hk
  all_goals first
    | assumption
    | (rw [Option.map_eq_some_iff] at hk; obtain ⟨_, _, h⟩ := hk; cases h; done)
    | (cases hk; done)
theorem mkey {m : Inj} {w : World} {mk : MK} {t : TypeId} {a : AV} (hk : mkind P t = some mk) (ha : keyOK mk a) : ∃ d, P.underlying t = some d ∧ (d = .string ∨ ∃ k, d = .int k) ∧ kOK d a := by
  cases mk with
  | i => obtain ⟨k, hu⟩ := mkind_i hk; exact ⟨_, hu, .inr ⟨k, rfl⟩, by cases a <;> simp [keyOK, kOK] at ha ⊢⟩
  | s => exact ⟨_, mkind_s hk, .inl rfl, by cases a <;> simp [keyOK, kOK] at ha ⊢⟩
  | a ks => cases a <;> simp [keyOK] at ha

theorem isKey_of {m : Inj} {w : World} {d : TypeDesc} {a : AV} {c : Value} (hv : VR m h w a c) (hk : kOK d a) (hd : d = .string ∨ ∃ k, d = .int k ∧ ∀ k' n, a = .int k' n → k' = k) : MapKept.IsKey d c := by
  rcases hd with rfl | ⟨k, rfl, hk2⟩
  · cases a <;> simp only [kOK] at hk; cases hv; trivial
  · cases a <;> simp only [kOK] at hk; cases hv; exact hk2 _ _ rfl
theorem map_obj {m : Inj} {w : World} (hr : HR m h w) {id : Nat} {es : List (AV × AV)} (hg : h.get id = some (.map es)) {c : Value} (hv : VR m h w (.map id) c) :
    ∃ (b : Nat) (ens : Array MapEntry) (ck : Nat), c = .map (some b) ∧ m id = some (b, 0) ∧ w.heap[b]? = some (.map ens ck) ∧ es.length = ens.size ∧ EntR m h w es ens.toList := by
  cases hv with
  | map _ r hu ha =>
    obtain ⟨b, ens, ck, q1, q2, q3, q4⟩ := hr.obj _ _ hg
    have := ha es hg
    rw [q1] at this
    cases this
    refine ⟨_, ens, ck, rfl, q1, q2, q3, entR_of (by simpa using q3) fun i k v hi => ?_⟩
    have := q4 i k v hi
    simpa [Array.getD_eq_getD_getElem?, List.getD_eq_getElem?_getD] using this

theorem run_checkKey0 {w : World} {kt : TypeId} {d : TypeDesc} {c : Value} (hd : P.underlying kt = some d) (hk : d = .string ∨ ∃ k, d = .int k) (em : Bool) (n : Nat) : (Instr.checkKey em (n + 1) kt c).run P w = .ok () w := by
  rcases hk with rfl | ⟨k, rfl⟩ <;> cases c <;> simp [Instr.checkKey, run_underlying hd]
theorem XOK.look {mk : MK} {z : AV} {ok : Bool} {x y : Opd} {id : Nat} {a : AV} {es : List (AV × AV)} {r : Option (Nat × AV)} (hx : ev e x = some (.map id)) (hy : ev e y = some a) (hg : h.get id = some (.map es)) (hk : keyOK mk a) (hf : findA a es 0 = some r) :
    XOK P N (.look mk z ok x y) e h (some (lookR z ok r)) .none := by
  intro o hc e2 hs m w act hr he
  obtain ⟨t, kt, et, mo, ko, i, zv, hop, hu, h1, h2, hmk, hi, hz, hzv⟩ := cx_look hc
  have hx2 : ev e2 x = some (.map id) := (ev_congr fun s h => hs s (by simp [xslots, h])).trans hx
  have hy2 : ev e2 y = some a := (ev_congr fun s h => hs s (by simp [xslots, h])).trans hy
  have vm := he.eval h1 hx2
  have vk := he.eval h2 hy2
  obtain ⟨b, ens, ck, e1, _, hb, hlen, hent⟩ := map_obj hr hg vm
  obtain ⟨d, hd, hd2, hd3⟩ := mkey (m := m) (w := w) hmk hk
  obtain ⟨rr, hfn, hfr⟩ := findNow_of hd2 vk hd3 hent hf
  have vz : VR m h w z zv := ofV_vr hzv
  have hzr : (zeroValue et).run P w = .ok zv w := by simp [zeroValue, run_typeInfo' hi, hz]
  have hck := run_checkKey0 (w := w) (c := act.eval ko) hd hd2 ens.isEmpty 9999
  have hfk := MapKept.run_findKey (w := w) hd hfn
  have key : ∃ cv, (Instr.lookup t (act.eval mo) (act.eval ko) ok).run P w = .ok cv w ∧ VR m h w (lookR z ok r) cv := by
    rw [e1]
    cases r with
    | none =>
      cases rr with
      | some _ => exact hfr.elim
      | none =>
        refine ⟨if ok then .tuple #[zv, .bool false] else zv, by simp [Instr.lookup, run_underlying hu, MapKept.run_getObj_map hb, hck, hfk, hzr], ?_⟩
        cases ok
        · exact vz
        · refine .tup _ _ rfl fun j v hj => ?_
          rcases j with _ | _ | j
          · cases hj; exact vz
          · cases hj; exact .bool false
          · simp at hj
    | some iv =>
      cases rr with
      | none => exact hfr.elim
      | some jc =>
        obtain ⟨q1, q2⟩ := hfr
        refine ⟨if ok then .tuple #[jc.2, .bool true] else jc.2, by simp [Instr.lookup, run_underlying hu, MapKept.run_getObj_map hb, hck, hfk], ?_⟩
        cases ok
        · exact q2
        · refine .tup _ _ rfl fun j v hj => ?_
          rcases j with _ | _ | j
          · cases hj; exact q2
          · cases hj; exact .bool true
          · simp at hj
  obtain ⟨cv, hrun, hv⟩ := key
  exact OpOK.pure hr (by simp [execOp, hop, hrun]) hv

/-! ### writing -/
theorem findNow_at {d : TypeDesc} {ca : Value} : ∀ (cs : List MapEntry) (i j : Nat) (c : Value), Instr.findNow d ca cs i = some (some (j, c)) → ∃ n e, j = i + n ∧ cs[n]? = some e ∧ Instr.sameNow d ca e.key = some true
  | [], i, j, c, hf => by simp [Instr.findNow] at hf
  | x :: cs, i, j, c, hf => by
    simp only [Instr.findNow] at hf
    split at hf
    · rename_i hs
      cases hf
      exact ⟨0, x, rfl, rfl, hs⟩
    · obtain ⟨n, e, h1, h2, h3⟩ := findNow_at cs (i + 1) j c hf
      exact ⟨n + 1, e, by omega, by simpa using h2, h3⟩
    · cases hf
theorem sameNow_eq {d : TypeDesc} (hd : d = .string ∨ ∃ k, d = .int k) {x y : Value} (hs : Instr.sameNow d x y = some true) : y = x ∧ ∀ n, Instr.sameBits n x x = true := by
  rcases hd with rfl | ⟨k, rfl⟩
  · cases x <;> cases y <;> simp [Instr.sameNow] at hs
    exact ⟨by rw [(MapKept.bytes_beq _ _).1 hs], fun n => by simp [Instr.sameBits, (MapKept.bytes_beq _ _).2 rfl]⟩
  · cases x <;> cases y <;> simp [Instr.sameNow] at hs
    obtain ⟨h1, h2⟩ := hs
    subst h1; subst h2
    exact ⟨rfl, fun n => by simp [Instr.sameBits]⟩
def putM (es : List (AV × AV)) (a v : AV) : Option (Nat × AV) → List (AV × AV)
  | none => es ++ [(a, v)]
  | some (i, _) => es.set i (a, v)
theorem cx_mput {o : Oper} {mk : MK} {x y v : Opd} (hc : compileX P N o = some (.mput mk x y v)) :
    ∃ t kt et mo ko vo, (o.op = .mapUpdate t mo ko vo ∨ o.op = .insert t mo ko vo) ∧ P.underlying t = some (.map kt et) ∧ ofOpd N mo = some x ∧ ofOpd N ko = some y ∧ ofOpd N vo = some v ∧ mkind P kt = some mk := by
  unfold compileX at hc
  split at hc
  case h_3 t mo ko vo hop =>
    split at hc
    · rw [Option.map_eq_some_iff] at hc
      obtain ⟨mk', h1, h2⟩ := hc
      cases h2
      exact ⟨_, _, _, _, _, _, .inl hop, ‹_›, ‹_›, ‹_›, ‹_›, h1⟩
    · cases hc
  case h_4 t mo ko vo hop =>
    split at hc
    · rw [Option.map_eq_some_iff] at hc
      obtain ⟨mk', h1, h2⟩ := hc
      cases h2
      exact ⟨_, _, _, _, _, _, .inr hop, ‹_›, ‹_›, ‹_›, ‹_›, h1⟩
    · cases hc
  all_goals
    (repeat' split at hc
     all_goals first
       | (cases hc; done)
       | (rw [Option.map_eq_some_iff] at hc; obtain ⟨_, _, h⟩ := hc; cases h; done) | contradiction)

theorem WUpd.map {w : World} {b : Nat} {ens ens' : Array MapEntry} {ck ck' : Nat} (hb : w.heap[b]? = some (.map ens ck)) : WUpd w { w with heap := w.heap.setIfInBounds b (.map ens' ck') } b :=
  ⟨rfl, rfl, rfl, by simp, fun k hk => (MapKept.heap_set hb).2 k hk, fun cc T fz h => by rw [hb] at h; cases h⟩
theorem XOK.mput {mk : MK} {x y z : Opd} {id : Nat} {a v : AV} {es : List (AV × AV)} {r : Option (Nat × AV)} (hx : ev e x = some (.map id)) (hy : ev e y = some a) (hz : ev e z = some v) (hg : h.get id = some (.map es)) (hk : keyOK mk a) (hf : findA a es 0 = some r) :
    XOK P N (.mput mk x y z) e h none (.set id (.map (putM es a v r))) := by
  intro o hc e2 hs m w act hr he
  obtain ⟨t, kt, et, mo, ko, vo, hop, hu, h1, h2, h3, hmk⟩ := cx_mput hc
  have hx2 : ev e2 x = some (.map id) := (ev_congr fun s h => hs s (by simp [xslots, h])).trans hx
  have hy2 : ev e2 y = some a := (ev_congr fun s h => hs s (by simp [xslots, h])).trans hy
  have hz2 : ev e2 z = some v := (ev_congr fun s h => hs s (by simp [xslots, h])).trans hz
  have vm := he.eval h1 hx2
  have vk := he.eval h2 hy2
  have vv := he.eval h3 hz2
  obtain ⟨b, ens, ck, e1, hmb, hb, hlen, hent⟩ := map_obj hr hg vm
  obtain ⟨_, ens0, ck0, p1, p2, p3, p4⟩ := hr.obj _ _ hg
  rw [hmb] at p1; cases p1
  rw [hb] at p2; cases p2
  obtain ⟨d, hd, hd2, hd3⟩ := mkey (m := m) (w := w) hmk hk
  obtain ⟨rr, hfn, hfr⟩ := findNow_of hd2 vk hd3 hent hf
  have hck := run_checkKey0 (w := w) (c := act.eval ko) hd hd2 false 9999
  have hfk := MapKept.run_findKey (w := w) hd hfn
  have key : ∃ ens' ck', (Instr.mapUpdate t (act.eval mo) (act.eval ko) (act.eval vo)).run P w = .ok () { w with heap := w.heap.setIfInBounds b (.map ens' ck') } ∧ (putM es a v r).length = ens'.size ∧
      ∀ (i : Nat) (k u : AV), (putM es a v r)[i]? = some (k, u) → VR m h w k (ens'.getD i default).key ∧ VR m h w u (ens'.getD i default).val := by
    rw [e1]
    cases r with
    | none =>
      cases rr with
      | some _ => exact hfr.elim
      | none =>
        refine ⟨ens.push { key := act.eval ko, val := act.eval vo, born := ck }, ck + 1, by simp [Instr.mapUpdate, run_underlying hu, MapKept.run_getObj_map hb, hck, hfk, MapKept.run_setObj_map _ hb, Result.andThen], by simp [putM, hlen], fun i k u hi => ?_⟩
        simp only [putM] at hi
        by_cases hlt : i < es.length
        · rw [List.getElem?_append_left hlt] at hi
          have := p4 i k u hi
          have h5 : (ens.push { key := act.eval ko, val := act.eval vo, born := ck }).getD i default = ens.getD i default := by
            simp [Array.getD_eq_getD_getElem?, Array.getElem?_push_lt (show i < ens.size by omega), show i < ens.size by omega]
          rw [h5]; exact this
        · have hi2 := (List.getElem?_eq_some_iff.1 hi).1
          simp at hi2
          have : i = es.length := by omega
          subst this
          simp at hi
          obtain ⟨rfl, rfl⟩ := hi
          have h5 : (ens.push { key := act.eval ko, val := act.eval vo, born := ck }).getD es.length default = { key := act.eval ko, val := act.eval vo, born := ck } := by
            rw [hlen]; simp [Array.getD_eq_getD_getElem?]
          rw [h5]; exact ⟨vk, vv⟩
    | some iv =>
      cases rr with
      | none => exact hfr.elim
      | some jc =>
        obtain ⟨j, c⟩ := jc
        obtain ⟨i0, v0⟩ := iv
        obtain ⟨q1, q2⟩ := hfr
        subst q1
        obtain ⟨n, en, q3, q4, q5⟩ := findNow_at _ _ _ _ hfn
        have q6 : n = i0 := by omega
        subst q6
        obtain ⟨q7, q8⟩ := sameNow_eq hd2 q5
        have hj : ens[n]? = some en := by simpa using q4
        refine ⟨ens.modify n fun e => { e with key := act.eval ko, val := act.eval vo }, ck, by simp [Instr.mapUpdate, run_underlying hu, MapKept.run_getObj_map hb, hck, hfk, hj, q7, Instr.keyThatStays, q8, MapKept.run_setObj_map _ hb, Result.andThen], by simp [putM, hlen], fun i k u hi => ?_⟩
        simp only [putM] at hi
        by_cases hin : n = i
        · subst hin
          have hlt : n < es.length := by
            have := (List.getElem?_eq_some_iff.1 hi).1
            simpa using this
          rw [List.getElem?_set_self hlt] at hi
          cases hi
          have h5 : (ens.modify n fun e => { e with key := act.eval ko, val := act.eval vo }).getD n default = { en with key := act.eval ko, val := act.eval vo } := by
            simp [Array.getD_eq_getD_getElem?, Array.getElem?_modify, hj]
          rw [h5]; exact ⟨vk, vv⟩
        · rw [List.getElem?_set_ne hin] at hi
          have := p4 i k u hi
          have h5 : (ens.modify n fun e => { e with key := act.eval ko, val := act.eval vo }).getD i default = ens.getD i default := by
            simp [Array.getD_eq_getD_getElem?, Array.getElem?_modify, hin]
          rw [h5]; exact this
  obtain ⟨ens', ck', hrun, hl', hv'⟩ := key
  have wu : WUpd w { w with heap := w.heap.setIfInBounds b (.map ens' ck') } b := WUpd.map hb
  have st := step_set hr hg hmb (x1 := .map (putM es a v r)) trivial wu
  refine ⟨m, _, hr.set (x1 := .map (putM es a v r)) hg hmb trivial wu ⟨b, ens', ck', hmb, (MapKept.heap_set hb).1, hl', fun i k u hi => ⟨(hv' i k u hi).1.step st, (hv' i k u hi).2.step st⟩⟩, st, ?_⟩
  rcases hop with hop | hop <;> simp [execOp, hop, hrun]

theorem cx_mlen {o : Oper} {x : Opd} (hc : compileX P N o = some (.mlen x)) : ∃ c xo t kt et, o.op = .call c ∧ c.callee = .builtin .len ∧ c.args.toList = [xo] ∧ c.argTypes[0]? = some t ∧ P.underlying t = some (.map kt et) ∧ ofOpd N xo = some x := by
  cases hop : o.op <;> simp only [compileX, hop] at hc <;> try (cases hc; done)
  case call c =>
    split at hc
    case h_1 hcal =>
      repeat' split at hc
      all_goals first
        | (cases hc; exact ⟨_, _, _, _, _, rfl, hcal, ‹_›, ‹_›, ‹_›, ‹_›⟩)
        | (cases hc; done)
    all_goals
      (repeat' split at hc
       all_goals (cases hc; done))
  all_goals
    (repeat' split at hc
     all_goals first
       | (cases hc; done)
       | (rw [Option.map_eq_some_iff] at hc; obtain ⟨_, _, h⟩ := hc; cases h; done) | contradiction)
theorem XOK.mlen {x : Opd} {id : Nat} {es : List (AV × AV)} (hx : ev e x = some (.map id)) (hg : h.get id = some (.map es)) : XOK P N (.mlen x) e h (some (.int .i64 es.length)) .none := by
  intro o hc e2 hs m w act hr he
  obtain ⟨c, xo, t, kt, et, hop, hcal, ha, hat, hu, h1⟩ := cx_mlen hc
  have hx2 : ev e2 x = some (.map id) := (ev_congr fun s h => hs s (by simp [xslots, h])).trans hx
  obtain ⟨b, ens, ck, e1, hmb, hb, hlen, hent⟩ := map_obj hr hg (he.eval h1 hx2)
  have ha' : c.args = #[xo] := by rw [← Array.toArray_toList (xs := c.args), ha]
  refine OpOK.pure hr ?_ (.int _ _)
  simp [execOp, hop, resolve, hcal, ha', invoke, builtin, Builtin.len_, hat, e1, run_underlying hu, MapKept.run_getObj_map hb, goInt, hlen]

/-! ### strings as bytes -/
end
end Go.Abs
