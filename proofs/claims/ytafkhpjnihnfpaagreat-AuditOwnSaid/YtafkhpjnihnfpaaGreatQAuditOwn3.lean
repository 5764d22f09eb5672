/- What the statement's proof needs, part 3. -/
import Derived.Test.YtafkhpjnihnfpaaGreatQAuditOwn2
set_option linter.all false
namespace Go.Abs
open Go

section
variable {P : Program} {N : Nat} {e e' : Env} {h h' : AHeap} {l : List CI} {Q : Exit → Env → AHeap → Prop}

/-- An operation beyond the plain ones: what it does, in any surrounding that has its slots. -/
def XOK (P : Program) (N : Nat) (x : Ex) (e : Env) (h : AHeap) (r : Option AV) (f : Eff) : Prop :=
  ∀ (o : Oper), compileX P N o = some x → ∀ e2, (∀ s ∈ xslots x, lk s e2 = lk s e) → ∀ (m : Inj) (w : World) (a : Act), HR m h w → ER N m h w e2 a → OpOK P o a m h w h.next r f

theorem FX.raw {d : Option Nat} {x : Ex} {g : Option (Nat × Bool)} {r : Option AV} {f : Eff} (hx : XOK P N x e h r f) (hg : met e g) : FX P N ⟨d, .raw x, g⟩ e h r (f.on h.next h) := by
  intro ops i o ho hc e2 hs m w a K Q hr he hk
  have hraw := compI_raw hc rfl
  rcases compI_ok hc with ⟨hb1, hb2⟩ | ⟨hd, hdst, _, hgd⟩
  · cases hb1
  · obtain ⟨w1, w2⟩ := wanted_of he hgd
    have hi : ∀ s ∈ xslots x, lk s e2 = lk s e := fun s h => hs s (by unfold cslots; split <;> simp [islots, h])
    have hw : Region.wanted o (yielded ops a.tmps) = true := by
      cases g with
      | none => exact w1 rfl
      | some sb =>
        obtain ⟨s, b⟩ := sb
        have hl : lk s e2 = some (.bool b) := (hs s (by simp [cslots])).trans hg
        rw [w2 s b b rfl hl]; simp
    simp only [wpOp, ho]
    rw [if_pos hw]
    left
    obtain ⟨m', w', hr', st, hres⟩ := hx o hraw e2 hi m w a hr he
    have hd' : d = o.dst := hd
    unfold Oper.wp
    cases r with
    | some v =>
      obtain ⟨cv, hrun, hv⟩ := hres
      rw [hrun, Oper.upon_value]
      refine hk m' w' _ hr' ?_ st
      show ER N m' _ w' (putR d (some v) e2) _
      rw [hd']
      exact (he.step st).putR hdst hv
    | none =>
      rw [hres, Oper.upon_skip]
      refine hk m' w' _ hr' ?_ st
      show ER N m' _ w' (putR d none e2) _
      rw [hd']
      exact (he.step st).skipR _ _
/-- One operation of a region in the text's order. -/
theorem AL.fx {c : CI} {r : Option AV} (hx : FX P N c e h r h') (hrest : AL P N l Q (putR c.d r e) h') : AL P N (c :: l) Q e h := by
  intro ops idx hlt hl m w a hr he
  cases idx with
  | nil => simp at hl
  | cons i idx =>
    simp only [List.map_cons, List.cons.injEq] at hl
    obtain ⟨hc, hl⟩ := hl
    have hilt := hlt i (by simp)
    have ho : ops[i]? = some ops[i] := Array.getElem?_eq_getElem hilt
    have hget : ops.getD i default = ops[i] := by simp [hilt]
    rw [hget] at hc
    rw [wpOps_cons]
    refine hx ops i _ ho hc e (fun _ _ => rfl) m w a _ _ hr he fun m' w' a' h1 h2 h3 => ?_
    exact wpOps_mono (fun _ _ _ hp => PA.from h3 hp) idx _ _ (hrest ops idx (fun j hj => hlt j (by simp [hj])) hl m' w' a' h1 h2)

theorem cx_mkmap {o : Oper} (hc : compileX P N o = some .mkmap) : ∃ t, o.op = .makeMap t none := by
  unfold compileX at hc
  split at hc
  all_goals first
    | exact ⟨_, ‹_›⟩
    | (repeat' split at hc
       all_goals first
         | (cases hc; done)
         | (rw [Option.map_eq_some_iff] at hc; obtain ⟨_, _, h⟩ := hc; cases h; done) | contradiction)
theorem XOK.mkmap : XOK P N .mkmap e h (some (.map h.next)) (.new (.map [])) := by
  intro o hc e2 hs m w a hr he
  obtain ⟨t, hop⟩ := cx_mkmap hc
  have hf := next_fresh hr
  have hOR : OR (upd m h.next (some (w.heap.size, 0))) (h.put h.next (.map [])) (w.alloc (.map #[] 0)) h.next (.map []) :=
    ⟨w.heap.size, #[], 0, by simp [upd], (MapKept.heap_alloc w _).1, rfl, by simp⟩
  refine ⟨_, _, hr.put hf (o := .map #[] 0) (t := 0) hOR, step_put hr hf _ _ _, .map (some w.heap.size), ?_, .map _ _ put_used_nm fun _ _ => by simp [upd]⟩
  simp [execOp, hop, Instr.makeMap]

def sameK : AV → AV → Option Bool
  | .int k a, .int k' b => if k = k' then some (a == b) else none
  | .str a, .str b => some (a == b)
  | _, _ => none
def findA (k : AV) : List (AV × AV) → Nat → Option (Option (Nat × AV))
  | [], _ => some none
  | (k', v) :: es, i => match sameK k k' with
    | some true => some (some (i, v))
    | some false => findA k es (i + 1)
    | none => none
/-- A map's entries, told. -/
def EntR (m : Inj) (h : AHeap) (w : World) : List (AV × AV) → List MapEntry → Prop
  | [], [] => True
  | (k, v) :: es, c :: cs => VR m h w k c.key ∧ VR m h w v c.val ∧ EntR m h w es cs
  | _, _ => False
def FindR (m : Inj) (h : AHeap) (w : World) : Option (Nat × AV) → Option (Nat × Value) → Prop
  | none, none => True
  | some (i, v), some (j, c) => i = j ∧ VR m h w v c
  | _, _ => False

theorem entR_of {m : Inj} {w : World} : ∀ {es : List (AV × AV)} {cs : List MapEntry}, es.length = cs.length → (∀ (i : Nat) (k v : AV), es[i]? = some (k, v) → VR m h w k (cs.getD i default).key ∧ VR m h w v (cs.getD i default).val) → EntR m h w es cs
  | [], [], _, _ => trivial
  | [], _ :: _, hl, _ => by simp at hl
  | _ :: _, [], hl, _ => by simp at hl
  | (k, v) :: es, c :: cs, hl, hv => ⟨(hv 0 k v rfl).1, (hv 0 k v rfl).2, entR_of (by simpa using hl) fun i k v hi => by simpa using hv (i + 1) k v (by simpa using hi)⟩

def kOK : TypeDesc → AV → Prop
  | .string, .str _ => True
  | .int _, .int _ _ => True
  | _, _ => False
theorem sameNow_of {m : Inj} {w : World} {d : TypeDesc} (hd : d = .string ∨ ∃ k, d = .int k) {a b : AV} {ca cb : Value} (ha : VR m h w a ca) (hb : VR m h w b cb) {r : Bool} (hk : kOK d a) (hs : sameK a b = some r) : Instr.sameNow d ca cb = some r := by
  rcases hd with rfl | ⟨k, rfl⟩
  · cases a <;> simp only [kOK] at hk
    cases b <;> simp only [sameK] at hs <;> try (cases hs; done)
    cases ha; cases hb
    rename_i x y
    simp only [Instr.sameNow]
    injection hs with hs
    rw [← hs]
    congr 1
    by_cases e : x = y
    · subst e; rw [(MapKept.bytes_beq _ _).2 rfl]; simp
    · have e1 : (x == y) = false := by simp [e]
      rw [e1]
      cases e2 : ((⟨x.toArray⟩ : ByteArray) == ⟨y.toArray⟩)
      · rfl
      · have := (MapKept.bytes_beq _ _).1 e2
        injection this with this
        exact absurd (by simpa using congrArg Array.toList this) e
  · cases a <;> simp only [kOK] at hk
    cases b <;> simp only [sameK] at hs <;> try (cases hs; done)
    cases ha; cases hb
    simp only [Instr.sameNow]
    exact hs
theorem findNow_of {m : Inj} {w : World} {d : TypeDesc} (hd : d = .string ∨ ∃ k, d = .int k) {a : AV} {ca : Value} (ha : VR m h w a ca) (hk : kOK d a) :
    ∀ {es : List (AV × AV)} {cs : List MapEntry} {i : Nat} {r : Option (Nat × AV)}, EntR m h w es cs → findA a es i = some r → ∃ rr, Instr.findNow d ca cs i = some rr ∧ FindR m h w r rr
  | [], [], i, r, _, hf => by cases hf; exact ⟨none, rfl, trivial⟩
  | [], _ :: _, _, _, he, _ => he.elim
  | _ :: _, [], _, _, he, _ => he.elim
  | (k, v) :: es, c :: cs, i, r, ⟨h1, h2, h3⟩, hf => by
    simp only [findA] at hf
    split at hf
    · rename_i hs
      cases hf
      exact ⟨some (i, c.val), by simp only [Instr.findNow, sameNow_of hd ha h1 hk hs], rfl, h2⟩
    · rename_i hs
      obtain ⟨rr, q1, q2⟩ := findNow_of hd ha hk h3 hf
      exact ⟨rr, by simp only [Instr.findNow, sameNow_of hd ha h1 hk hs, q1], q2⟩
    · cases hf

theorem cx_look {o : Oper} {mk : MK} {z : AV} {ok : Bool} {x y : Opd} (hc : compileX P N o = some (.look mk z ok x y)) :
    ∃ t kt et mo ko i zv, o.op = .lookup t mo ko ok ∧ P.underlying t = some (.map kt et) ∧ ofOpd N mo = some x ∧ ofOpd N ko = some y ∧ mkind P kt = some mk ∧ P.info? et = some i ∧ i.zero = some zv ∧ ofV zv = some z := by
  unfold compileX at hc
  split at hc
  case h_2 t mo ko ok' hop =>
    repeat' split at hc
    all_goals first
      | (cases hc; done)
      | (cases hc; exact ⟨_, _, _, _, _, _, _, hop, ‹_›, ‹_›, ‹_›, ‹_›, ‹_›, ‹_›, ‹_›⟩)
  all_goals
    (repeat' split at hc
     all_goals first
       | (cases hc; done)
       | (rw [Option.map_eq_some_iff] at hc; obtain ⟨_, _, h⟩ := hc; cases h; done) | contradiction)

/-- What a lookup answers. -/
def lookR (z : AV) (ok : Bool) (r : Option (Nat × AV)) : AV :=
  if ok then .tup [(r.map (·.2)).getD z, .bool r.isSome] else (r.map (·.2)).getD z
def keyOK : MK → AV → Prop
  | .i, .int _ _ => True
  | .s, .str _ => True
  | _, _ => False
theorem mkind_i {t : TypeId} (hk : mkind P t = some .i) : ∃ k, P.underlying t = some (.int k) := by
  unfold mkind at hk
  repeat' split at hk
  all_goals first
    | exact ⟨_, ‹_›⟩
    | (rw [Option.map_eq_some_iff] at hk; obtain ⟨_, _, h⟩ := hk; cases h; done)
    | (cases hk; done)
theorem mkind_s {t : TypeId} (hk : mkind P t = some .s) : P.underlying t = some .string := by
  unfold mkind at hk
  repeat' split at hk
  all_goals first
    | assumption
    | (rw [Option.map_eq_some_iff] at hk; obtain ⟨_, _, h⟩ := hk; cases h; done)
    | (cases hk; done)
theorem mkey {m : Inj} {w : World} {mk : MK} {t : TypeId} {a : AV} (hk : mkind P t = some mk) (ha : keyOK mk a) : ∃ d, P.underlying t = some d ∧ (d = .string ∨ ∃ k, d = .int k) ∧ kOK d a := by
  cases mk with
  | i => obtain ⟨k, hu⟩ := mkind_i hk; exact ⟨_, hu, .inr ⟨k, rfl⟩, by cases a <;> simp [keyOK, kOK] at ha ⊢⟩
  | s => exact ⟨_, mkind_s hk, .inl rfl, by cases a <;> simp [keyOK, kOK] at ha ⊢⟩
  | a ks => cases a <;> simp [keyOK] at ha

theorem map_obj {m : Inj} {w : World} (hr : HR m h w) {id : Nat} {es : List (AV × AV)} (hg : h.get id = some (.map es)) {c : Value} (hv : VR m h w (.map id) c) :
    ∃ (b : Nat) (ens : Array MapEntry) (ck : Nat), c = .map (some b) ∧ m id = some (b, 0) ∧ w.heap[b]? = some (.map ens ck) ∧ es.length = ens.size ∧ EntR m h w es ens.toList := by
  cases hv with
  | map _ r hu ha =>
    obtain ⟨b, ens, ck, q1, q2, q3, q4⟩ := hr.obj _ _ hg
    have := ha es hg
    rw [q1] at this
    cases this
    refine ⟨_, ens, ck, rfl, q1, q2, q3, entR_of (by simpa using q3) fun i k v hi => ?_⟩
    have := q4 i k v hi
    simpa [Array.getD_eq_getD_getElem?, List.getD_eq_getElem?_getD] using this

theorem run_checkKey0 {w : World} {kt : TypeId} {d : TypeDesc} {c : Value} (hd : P.underlying kt = some d) (hk : d = .string ∨ ∃ k, d = .int k) (em : Bool) (n : Nat) : (Instr.checkKey em (n + 1) kt c).run P w = .ok () w := by
  rcases hk with rfl | ⟨k, rfl⟩ <;> cases c <;> simp [Instr.checkKey, run_underlying hd]
theorem XOK.look {mk : MK} {z : AV} {ok : Bool} {x y : Opd} {id : Nat} {a : AV} {es : List (AV × AV)} {r : Option (Nat × AV)} (hx : ev e x = some (.map id)) (hy : ev e y = some a) (hg : h.get id = some (.map es)) (hk : keyOK mk a) (hf : findA a es 0 = some r) :
    XOK P N (.look mk z ok x y) e h (some (lookR z ok r)) .none := by
  intro o hc e2 hs m w act hr he
  obtain ⟨t, kt, et, mo, ko, i, zv, hop, hu, h1, h2, hmk, hi, hz, hzv⟩ := cx_look hc
  have hx2 : ev e2 x = some (.map id) := (ev_congr fun s h => hs s (by simp [xslots, h])).trans hx
  have hy2 : ev e2 y = some a := (ev_congr fun s h => hs s (by simp [xslots, h])).trans hy
  have vm := he.eval h1 hx2
  have vk := he.eval h2 hy2
  obtain ⟨b, ens, ck, e1, _, hb, hlen, hent⟩ := map_obj hr hg vm
  obtain ⟨d, hd, hd2, hd3⟩ := mkey (m := m) (w := w) hmk hk
  obtain ⟨rr, hfn, hfr⟩ := findNow_of hd2 vk hd3 hent hf
  have vz : VR m h w z zv := ofV_vr hzv
  have hzr : (zeroValue et).run P w = .ok zv w := by simp [zeroValue, run_typeInfo' hi, hz]
  have hck := run_checkKey0 (w := w) (c := act.eval ko) hd hd2 ens.isEmpty 9999
  have hfk := MapKept.run_findKey (w := w) hd hfn
  have key : ∃ cv, (Instr.lookup t (act.eval mo) (act.eval ko) ok).run P w = .ok cv w ∧ VR m h w (lookR z ok r) cv := by
    rw [e1]
    cases r with
    | none =>
      cases rr with
      | some _ => exact hfr.elim
      | none =>
        refine ⟨if ok then .tuple #[zv, .bool false] else zv, by simp [Instr.lookup, run_underlying hu, MapKept.run_getObj_map hb, hck, hfk, hzr], ?_⟩
        cases ok
        · exact vz
        · refine .tup _ _ rfl fun j v hj => ?_
          rcases j with _ | _ | j
          · cases hj; exact vz
          · cases hj; exact .bool false
          · simp at hj
    | some iv =>
      cases rr with
      | none => exact hfr.elim
      | some jc =>
        obtain ⟨q1, q2⟩ := hfr
        refine ⟨if ok then .tuple #[jc.2, .bool true] else jc.2, by simp [Instr.lookup, run_underlying hu, MapKept.run_getObj_map hb, hck, hfk], ?_⟩
        cases ok
        · exact q2
        · refine .tup _ _ rfl fun j v hj => ?_
          rcases j with _ | _ | j
          · cases hj; exact q2
          · cases hj; exact .bool true
          · simp at hj
  obtain ⟨cv, hrun, hv⟩ := key
  exact OpOK.pure hr (by simp [execOp, hop, hrun]) hv

theorem findNow_at {d : TypeDesc} {ca : Value} : ∀ (cs : List MapEntry) (i j : Nat) (c : Value), Instr.findNow d ca cs i = some (some (j, c)) → ∃ n e, j = i + n ∧ cs[n]? = some e ∧ Instr.sameNow d ca e.key = some true
  | [], i, j, c, hf => by simp [Instr.findNow] at hf
  | x :: cs, i, j, c, hf => by
    simp only [Instr.findNow] at hf
    split at hf
    · rename_i hs
      cases hf
      exact ⟨0, x, rfl, rfl, hs⟩
    · obtain ⟨n, e, h1, h2, h3⟩ := findNow_at cs (i + 1) j c hf
      exact ⟨n + 1, e, by omega, by simpa using h2, h3⟩
    · cases hf
theorem sameNow_eq {d : TypeDesc} (hd : d = .string ∨ ∃ k, d = .int k) {x y : Value} (hs : Instr.sameNow d x y = some true) : y = x ∧ ∀ n, Instr.sameBits n x x = true := by
  rcases hd with rfl | ⟨k, rfl⟩
  · cases x <;> cases y <;> simp [Instr.sameNow] at hs
    exact ⟨by rw [(MapKept.bytes_beq _ _).1 hs], fun n => by simp [Instr.sameBits, (MapKept.bytes_beq _ _).2 rfl]⟩
  · cases x <;> cases y <;> simp [Instr.sameNow] at hs
    obtain ⟨h1, h2⟩ := hs
    subst h1; subst h2
    exact ⟨rfl, fun n => by simp [Instr.sameBits]⟩
def putM (es : List (AV × AV)) (a v : AV) : Option (Nat × AV) → List (AV × AV)
  | none => es ++ [(a, v)]
  | some (i, _) => es.set i (a, v)
theorem cx_mput {o : Oper} {mk : MK} {x y v : Opd} (hc : compileX P N o = some (.mput mk x y v)) :
    ∃ t kt et mo ko vo, (o.op = .mapUpdate t mo ko vo ∨ o.op = .insert t mo ko vo) ∧ P.underlying t = some (.map kt et) ∧ ofOpd N mo = some x ∧ ofOpd N ko = some y ∧ ofOpd N vo = some v ∧ mkind P kt = some mk := by
  unfold compileX at hc
  split at hc
  case h_3 t mo ko vo hop =>
    split at hc
    · rw [Option.map_eq_some_iff] at hc
      obtain ⟨mk', h1, h2⟩ := hc
      cases h2
      exact ⟨_, _, _, _, _, _, .inl hop, ‹_›, ‹_›, ‹_›, ‹_›, h1⟩
    · cases hc
  case h_4 t mo ko vo hop =>
    split at hc
    · rw [Option.map_eq_some_iff] at hc
      obtain ⟨mk', h1, h2⟩ := hc
      cases h2
      exact ⟨_, _, _, _, _, _, .inr hop, ‹_›, ‹_›, ‹_›, ‹_›, h1⟩
    · cases hc
  all_goals
    (repeat' split at hc
     all_goals first
       | (cases hc; done)
       | (rw [Option.map_eq_some_iff] at hc; obtain ⟨_, _, h⟩ := hc; cases h; done) | contradiction)

theorem WUpd.map {w : World} {b : Nat} {ens ens' : Array MapEntry} {ck ck' : Nat} (hb : w.heap[b]? = some (.map ens ck)) : WUpd w { w with heap := w.heap.setIfInBounds b (.map ens' ck') } b :=
  ⟨rfl, rfl, rfl, by simp, fun k hk => (MapKept.heap_set hb).2 k hk, fun cc T fz h => by rw [hb] at h; cases h⟩
theorem XOK.mput {mk : MK} {x y z : Opd} {id : Nat} {a v : AV} {es : List (AV × AV)} {r : Option (Nat × AV)} (hx : ev e x = some (.map id)) (hy : ev e y = some a) (hz : ev e z = some v) (hg : h.get id = some (.map es)) (hk : keyOK mk a) (hf : findA a es 0 = some r) :
    XOK P N (.mput mk x y z) e h none (.set id (.map (putM es a v r))) := by
  intro o hc e2 hs m w act hr he
  obtain ⟨t, kt, et, mo, ko, vo, hop, hu, h1, h2, h3, hmk⟩ := cx_mput hc
  have hx2 : ev e2 x = some (.map id) := (ev_congr fun s h => hs s (by simp [xslots, h])).trans hx
  have hy2 : ev e2 y = some a := (ev_congr fun s h => hs s (by simp [xslots, h])).trans hy
  have hz2 : ev e2 z = some v := (ev_congr fun s h => hs s (by simp [xslots, h])).trans hz
  have vm := he.eval h1 hx2
  have vk := he.eval h2 hy2
  have vv := he.eval h3 hz2
  obtain ⟨b, ens, ck, e1, hmb, hb, hlen, hent⟩ := map_obj hr hg vm
  obtain ⟨_, ens0, ck0, p1, p2, p3, p4⟩ := hr.obj _ _ hg
  rw [hmb] at p1; cases p1
  rw [hb] at p2; cases p2
  obtain ⟨d, hd, hd2, hd3⟩ := mkey (m := m) (w := w) hmk hk
  obtain ⟨rr, hfn, hfr⟩ := findNow_of hd2 vk hd3 hent hf
  have hck := run_checkKey0 (w := w) (c := act.eval ko) hd hd2 false 9999
  have hfk := MapKept.run_findKey (w := w) hd hfn
  have key : ∃ ens' ck', (Instr.mapUpdate t (act.eval mo) (act.eval ko) (act.eval vo)).run P w = .ok () { w with heap := w.heap.setIfInBounds b (.map ens' ck') } ∧ (putM es a v r).length = ens'.size ∧
      ∀ (i : Nat) (k u : AV), (putM es a v r)[i]? = some (k, u) → VR m h w k (ens'.getD i default).key ∧ VR m h w u (ens'.getD i default).val := by
    rw [e1]
    cases r with
    | none =>
      cases rr with
      | some _ => exact hfr.elim
      | none =>
        refine ⟨ens.push { key := act.eval ko, val := act.eval vo, born := ck }, ck + 1, by simp [Instr.mapUpdate, run_underlying hu, MapKept.run_getObj_map hb, hck, hfk, MapKept.run_setObj_map _ hb, Result.andThen], by simp [putM, hlen], fun i k u hi => ?_⟩
        simp only [putM] at hi
        by_cases hlt : i < es.length
        · rw [List.getElem?_append_left hlt] at hi
          have := p4 i k u hi
          have h5 : (ens.push { key := act.eval ko, val := act.eval vo, born := ck }).getD i default = ens.getD i default := by
            simp [Array.getD_eq_getD_getElem?, Array.getElem?_push_lt (show i < ens.size by omega), show i < ens.size by omega]
          rw [h5]; exact this
        · have hi2 := (List.getElem?_eq_some_iff.1 hi).1
          simp at hi2
          have : i = es.length := by omega
          subst this
          simp at hi
          obtain ⟨rfl, rfl⟩ := hi
          have h5 : (ens.push { key := act.eval ko, val := act.eval vo, born := ck }).getD es.length default = { key := act.eval ko, val := act.eval vo, born := ck } := by
            rw [hlen]; simp [Array.getD_eq_getD_getElem?]
          rw [h5]; exact ⟨vk, vv⟩
    | some iv =>
      cases rr with
      | none => exact hfr.elim
      | some jc =>
        obtain ⟨j, c⟩ := jc
        obtain ⟨i0, v0⟩ := iv
        obtain ⟨q1, q2⟩ := hfr
        subst q1
        obtain ⟨n, en, q3, q4, q5⟩ := findNow_at _ _ _ _ hfn
        have q6 : n = i0 := by omega
        subst q6
        obtain ⟨q7, q8⟩ := sameNow_eq hd2 q5
        have hj : ens[n]? = some en := by simpa using q4
        refine ⟨ens.modify n fun e => { e with key := act.eval ko, val := act.eval vo }, ck, by simp [Instr.mapUpdate, run_underlying hu, MapKept.run_getObj_map hb, hck, hfk, hj, q7, Instr.keyThatStays, q8, MapKept.run_setObj_map _ hb, Result.andThen], by simp [putM, hlen], fun i k u hi => ?_⟩
        simp only [putM] at hi
        by_cases hin : n = i
        · subst hin
          have hlt : n < es.length := by
            have := (List.getElem?_eq_some_iff.1 hi).1
            simpa using this
          rw [List.getElem?_set_self hlt] at hi
          cases hi
          have h5 : (ens.modify n fun e => { e with key := act.eval ko, val := act.eval vo }).getD n default = { en with key := act.eval ko, val := act.eval vo } := by
            simp [Array.getD_eq_getD_getElem?, Array.getElem?_modify, hj]
          rw [h5]; exact ⟨vk, vv⟩
        · rw [List.getElem?_set_ne hin] at hi
          have := p4 i k u hi
          have h5 : (ens.modify n fun e => { e with key := act.eval ko, val := act.eval vo }).getD i default = ens.getD i default := by
            simp [Array.getD_eq_getD_getElem?, Array.getElem?_modify, hin]
          rw [h5]; exact this
  obtain ⟨ens', ck', hrun, hl', hv'⟩ := key
  have wu : WUpd w { w with heap := w.heap.setIfInBounds b (.map ens' ck') } b := WUpd.map hb
  have st := step_set hr hg hmb (x1 := .map (putM es a v r)) trivial wu
  refine ⟨m, _, hr.set (x1 := .map (putM es a v r)) hg hmb trivial wu ⟨b, ens', ck', hmb, (MapKept.heap_set hb).1, hl', fun i k u hi => ⟨(hv' i k u hi).1.step st, (hv' i k u hi).2.step st⟩⟩, st, ?_⟩
  rcases hop with hop | hop <;> simp [execOp, hop, hrun]

theorem cx_mlen {o : Oper} {x : Opd} (hc : compileX P N o = some (.mlen x)) : ∃ c xo t kt et, o.op = .call c ∧ c.callee = .builtin .len ∧ c.args.toList = [xo] ∧ c.argTypes[0]? = some t ∧ P.underlying t = some (.map kt et) ∧ ofOpd N xo = some x := by
  cases hop : o.op <;> simp only [compileX, hop] at hc <;> try (cases hc; done)
  case call c =>
    split at hc
    case h_1 hcal =>
      repeat' split at hc
      all_goals first
        | (cases hc; exact ⟨_, _, _, _, _, rfl, hcal, ‹_›, ‹_›, ‹_›, ‹_›⟩)
        | (cases hc; done)
    all_goals
      (repeat' split at hc
       all_goals (cases hc; done))
  all_goals
    (repeat' split at hc
     all_goals first
       | (cases hc; done)
       | (rw [Option.map_eq_some_iff] at hc; obtain ⟨_, _, h⟩ := hc; cases h; done) | contradiction)
theorem XOK.mlen {x : Opd} {id : Nat} {es : List (AV × AV)} (hx : ev e x = some (.map id)) (hg : h.get id = some (.map es)) : XOK P N (.mlen x) e h (some (.int .i64 es.length)) .none := by
  intro o hc e2 hs m w act hr he
  obtain ⟨c, xo, t, kt, et, hop, hcal, ha, hat, hu, h1⟩ := cx_mlen hc
  have hx2 : ev e2 x = some (.map id) := (ev_congr fun s h => hs s (by simp [xslots, h])).trans hx
  obtain ⟨b, ens, ck, e1, hmb, hb, hlen, hent⟩ := map_obj hr hg (he.eval h1 hx2)
  have ha' : c.args = #[xo] := by rw [← Array.toArray_toList (xs := c.args), ha]
  refine OpOK.pure hr ?_ (.int _ _)
  simp [execOp, hop, resolve, hcal, ha', invoke, builtin, Builtin.len_, hat, e1, run_underlying hu, MapKept.run_getObj_map hb, goInt, hlen]

end
end Go.Abs

namespace Go.Abs
open Go

section
variable {P : Program} {N : Nat} {e e' : Env} {h h' : AHeap} {l : List CI} {Q : Exit → Env → AHeap → Prop}

/-- One operation with several answers. -/
def FQ (P : Program) (N : Nat) (c : CI) (e : Env) (h : AHeap) (R : Option AV → AHeap → Prop) : Prop :=
  ∀ (ops : Array Oper) (i : Nat) (o : Oper), ops[i]? = some o → compI P N ops o = c → ∀ (m : Inj) (w : World) (a : Act) (K : Act → World → Prop) (Q : Exit → Act → World → Prop),
    HR m h w → ER N m h w e a → (∀ r h' m' w' a', R r h' → HR m' h' w' → ER N m' h' w' (putR c.d r e) a' → Step m h w m' h' w' → K a' w') → wpOp P ops Q i K a w
theorem AL.fq {c : CI} {R : Option AV → AHeap → Prop} (hx : FQ P N c e h R) (hrest : ∀ r h', R r h' → AL P N l Q (putR c.d r e) h') : AL P N (c :: l) Q e h := by
  intro ops idx hlt hl m w a hr he
  cases idx with
  | nil => simp at hl
  | cons i idx =>
    simp only [List.map_cons, List.cons.injEq] at hl
    obtain ⟨hc, hl⟩ := hl
    have hilt := hlt i (by simp)
    have ho : ops[i]? = some ops[i] := Array.getElem?_eq_getElem hilt
    have hget : ops.getD i default = ops[i] := by simp [hilt]
    rw [hget] at hc
    rw [wpOps_cons]
    refine hx ops i _ ho hc m w a _ _ hr he fun r h' m' w' a' hR h1 h2 h3 => ?_
    exact wpOps_mono (fun _ _ _ hp => PA.from h3 hp) idx _ _ (hrest r h' hR ops idx (fun j hj => hlt j (by simp [hj])) hl m' w' a' h1 h2)

theorem met_wanted {ops : Array Oper} {o : Oper} {d : Option Nat} {i : Ins} {g : Option (Nat × Bool)} {m : Inj} {w : World} {a : Act} (he : ER N m h w e a) (hg : met e g)
    (hgd : match o.guard with | none => (CI.mk d i g).g = none | some (j, b) => ∃ s, (ops[j]?).bind (·.dst) = some s ∧ (CI.mk d i g).g = some (s, b)) : Region.wanted o (yielded ops a.tmps) = true := by
  obtain ⟨w1, w2⟩ := wanted_of he hgd
  cases g with
  | none => exact w1 rfl
  | some sb =>
    obtain ⟨s, b⟩ := sb
    rw [w2 s b b rfl hg]; simp

/-- An operation, by what it does at the real state. -/
theorem FQ.of {d : Option Nat} {i : Ins} {g : Option (Nat × Bool)} {R : Option AV → AHeap → Prop} (hni : i ≠ .bad) (hg : met e g)
    (hx : ∀ (ops : Array Oper) (o : Oper), compI P N ops o = ⟨d, i, g⟩ → ∀ (m : Inj) (w : World) (a : Act), HR m h w → ER N m h w e a → ∃ r f, R r (f.on h.next h) ∧ OpOK P o a m h w h.next r f) : FQ P N ⟨d, i, g⟩ e h R := by
  intro ops i o ho hc m w a K Q hr he hk
  rcases compI_ok hc with ⟨hb1, hb2⟩ | ⟨hd, hdst, _, hgd⟩
  · exact absurd hb1 hni
  · simp only [wpOp, ho]
    rw [if_pos (met_wanted he hg hgd)]
    left
    obtain ⟨r, f, hR, m', w', hr', st, hres⟩ := hx ops o hc m w a hr he
    have hd' : d = o.dst := hd
    unfold Oper.wp
    cases r with
    | some v =>
      obtain ⟨cv, hrun, hv⟩ := hres
      rw [hrun, Oper.upon_value]
      refine hk _ _ m' w' _ hR hr' ?_ st
      show ER N m' _ w' (putR d (some v) e) _
      rw [hd']
      exact (he.step st).putR hdst hv
    | none =>
      rw [hres, Oper.upon_skip]
      refine hk _ _ m' w' _ hR hr' ?_ st
      show ER N m' _ w' (putR d none e) _
      rw [hd']
      exact (he.step st).skipR _ _
theorem comp_plain {ops : Array Oper} {o : Oper} {d : Option Nat} {i : Ins} {g : Option (Nat × Bool)} (hc : compI P N ops o = ⟨d, i, g⟩) (hp : i.plain = true) : compileOp P N o = some i := by
  rcases compI_ok hc with ⟨hb1, hb2⟩ | ⟨_, _, h3, _⟩
  · have hb : i = .bad := hb1
    subst hb; cases hp
  · exact h3 hp

theorem run_eq_slice_none {t el : TypeId} {w : World} (ht : P.underlying t = some (.slice el)) (d : Nat) (l c : Nat) : (Op.equalIn (d + 1) t (.slice none l c) (.slice none 0 0)).run P w = .ok true w := by
  simp [Op.equalIn, run_underlying ht]
theorem cx_isnil {o : Oper} {neg : Bool} {x : Opd} (hc : compileOp P N o = some (.isnil neg x)) : ∃ op t u el xo, (op = .eql ∧ neg = false ∨ op = .neq ∧ neg = true) ∧ P.underlying t = some (.slice el) ∧ o.op = .binOp op t xo (.const (.slice none 0 0)) u ∧ ofOpd N xo = some x := by
  cases hop : o.op <;> simp only [compileOp, hop] at hc <;> try (cases hc; done)
  case binOp op t x0 y u =>
    cases op <;> simp only at hc
    all_goals
      repeat' split at hc
    all_goals first
      | (cases hc; done)
      | (cases hc; exact ⟨_, _, _, _, _, .inl ⟨rfl, rfl⟩, ‹_›, rfl, ‹_›⟩)
      | (cases hc; exact ⟨_, _, _, _, _, .inr ⟨rfl, rfl⟩, ‹_›, rfl, ‹_›⟩)
      | (rw [Option.map_eq_some_iff] at hc; obtain ⟨_, _, h⟩ := hc; cases h; done)
  all_goals
    (repeat' split at hc
     all_goals first
       | (cases hc; done)
       | (rw [Option.map_eq_some_iff] at hc; obtain ⟨_, _, h⟩ := hc; cases h; done) | contradiction)
theorem FQ.isnil {d : Option Nat} {neg : Bool} {x : Opd} {g : Option (Nat × Bool)} {c : List (List AV)} {sz : Nat} (hx : ev e x = some (.imm sz c)) (hg : met e g) :
    FQ P N ⟨d, .isnil neg x, g⟩ e h (fun r h' => ∃ b : Bool, r = some (.bool (if neg then !b else b)) ∧ h' = h ∧ (b = true → c = [])) := by
  refine FQ.of (by simp) hg fun ops o hc m w a hr he => ?_
  obtain ⟨op, t, u, el, xo, hop, ht, ho, h1⟩ := cx_isnil (comp_plain hc rfl)
  have e1 := he.eval h1 hx
  have key : ∃ b : Bool, (b = true → c = []) ∧ ∃ l cp ad, a.eval xo = .slice ad l cp ∧ b = ad.isNone := by
    generalize a.eval xo = cx at e1
    cases e1 with
    | imm0 => exact ⟨true, fun _ => rfl, _, _, _, rfl, rfl⟩
    | imm1 => exact ⟨false, fun h => (nomatch h), _, _, _, rfl, rfl⟩
    | imm => exact ⟨false, fun h => (nomatch h), _, _, _, rfl, rfl⟩
  obtain ⟨b, hb, l, cp, ad, hx1, rfl⟩ := key
  refine ⟨_, .none, ⟨ad.isNone, rfl, rfl, hb⟩, ?_⟩
  have heq : (Op.equal t (.slice ad l cp) (.slice none 0 0)).run P w = .ok ad.isNone w := by
    cases ad with
    | none => exact run_eq_slice_none ht 9999 l cp
    | some ad => exact run_eq_slice_nil ht 9999 ad l cp
  have hy : a.eval (.const (.slice none 0 0)) = .slice none 0 0 := rfl
  refine OpOK.pure hr (cv := .bool (if neg then !ad.isNone else ad.isNone)) ?_ (by cases neg <;> exact .bool _)
  rcases hop with ⟨rfl, rfl⟩ | ⟨rfl, rfl⟩
  · simp [execOp, ho, hx1, hy, eqGuard_at_slice, binOp, heq]
  · simp [execOp, ho, hx1, hy, eqGuard_at_slice, binOp, heq]

theorem cx_call {o : Oper} {y : Ex} (hc : compileX P N o = some y) (hy : match y with | .caps _ | .appz _ _ _ _ _ | .callx _ _ | .inv _ _ _ | .clr _ _ _ => True | _ => False) : ∃ c, o.op = .call c := by
  cases hop : o.op <;> simp only [compileX, hop] at hc <;> try (cases hc; done)
  case call c => exact ⟨c, rfl⟩
  all_goals
    (repeat' split at hc
     all_goals first
       | (cases hc; cases hy; done)
       | (cases hc; done)
       | (rw [Option.map_eq_some_iff] at hc; obtain ⟨_, _, h⟩ := hc; subst h; cases hy; done)
       | contradiction)
theorem cx_caps {o : Oper} {x : Opd} (hc : compileX P N o = some (.caps x)) : ∃ c xo t el, o.op = .call c ∧ c.callee = .builtin .cap ∧ c.args.toList = [xo] ∧ c.argTypes[0]? = some t ∧ P.underlying t = some (.slice el) ∧ ofOpd N xo = some x := by
  obtain ⟨c, hop⟩ := cx_call hc trivial
  simp only [compileX, hop] at hc
  split at hc
  case h_2 hcal =>
    repeat' split at hc
    all_goals first
      | (cases hc; exact ⟨_, _, _, _, hop, hcal, ‹_›, ‹_›, ‹_›, ‹_›⟩)
      | (cases hc; done)
  all_goals
    (repeat' split at hc
     all_goals (cases hc; done))
theorem XOK.caps0 {x : Opd} (hx : ev e x = some .nils) : XOK P N (.caps x) e h (some (.int .i64 0)) .none := by
  intro o hc e2 hs m w act hr he
  obtain ⟨c, xo, t, el, hop, hcal, ha, hat, hu, h1⟩ := cx_caps hc
  have hx2 : ev e2 x = some .nils := (ev_congr fun s h => hs s (by simp [xslots, h])).trans hx
  have ha' : c.args = #[xo] := by rw [← Array.toArray_toList (xs := c.args), ha]
  have e1 := he.eval h1 hx2
  generalize hcx : act.eval xo = cx at e1
  refine OpOK.pure hr (cv := .int .i64 0) ?_ (.int _ _)
  cases e1 <;> simp [execOp, hop, resolve, hcal, ha', invoke, builtin, Builtin.cap_, hat, hcx, run_underlying hu, goInt]

theorem cx_appz {o : Oper} {sz bytes : Nat} {zs : List AV} {x y : Opd} (hc : compileX P N o = some (.appz sz bytes zs x y)) : ∃ c s n t u el k i z, o.op = .call c ∧ c.callee = .builtin .append ∧ c.args.toList = [s, n] ∧ c.argTypes.toList = [t, u] ∧ P.underlying t = some (.slice el) ∧ P.underlying u = some (.int k) ∧
    ofOpd N s = some x ∧ ofOpd N n = some y ∧ P.info? el = some i ∧ i.zero = some z ∧ ofL ofV z.cells.toList = some zs ∧ 0 < i.size ∧ 0 < i.bytes ∧ z.cells.size = i.size ∧ sz = i.size ∧ bytes = i.bytes := by
  obtain ⟨c, hop⟩ := cx_call hc trivial
  simp only [compileX, hop] at hc
  split at hc
  case h_3 hcal =>
    repeat' split at hc
    all_goals first
      | (rename_i hcond; cases hc; exact ⟨_, _, _, _, _, _, _, _, _, hop, hcal, ‹_›, ‹_›, ‹_›, ‹_›, ‹_›, ‹_›, ‹_›, ‹_›, ‹_›, hcond.1, hcond.2.1, hcond.2.2, rfl, rfl⟩)
      | (cases hc; done)
  all_goals
    (repeat' split at hc
     all_goals (cases hc; done))
theorem zeroCells_get {z : Array Value} {n k : Nat} (hk : k < n * z.size) : (Builtin.zeroCells z n)[k]? = some (z.getD (k % z.size) undef) := by
  have hz : 0 < z.size := by
    rcases Nat.eq_zero_or_pos z.size with h | h
    · rw [h] at hk; omega
    · exact h
  have hm : k % z.size < z.size := Nat.mod_lt _ hz
  simp [Builtin.zeroCells, hk, Array.getD_eq_getD_getElem?, hm]
/-- A row of zeros reads as such. -/
theorem rowF_zero {m : Inj} {w : World} {z : Value} {zs : List AV} {sz n : Nat} (hzs : ofL ofV z.cells.toList = some zs) (hsz : z.cells.size = sz) (h0 : 0 < sz) {F : Nat → Value} (hF : ∀ k, k < n * sz → F k = z.cells.getD (k % sz) undef) : RowF m h w sz (List.replicate n zs) F := by
  obtain ⟨q1, q2, q3⟩ := ofL_ofV (m := m) (h := h) (w := w) hzs
  refine ⟨fun x hx => ?_, fun x hx => ?_, fun i cells hi j v hj => ?_⟩
  · obtain ⟨_, rfl⟩ := List.mem_replicate.1 hx; simpa [hsz] using q1
  · obtain ⟨_, rfl⟩ := List.mem_replicate.1 hx; exact q2
  · rw [List.getElem?_replicate] at hi
    split at hi
    · rename_i hlt
      cases hi
      have hjs : j < sz := by
        have := (List.getElem?_eq_some_iff.1 hj).1
        have h6 : zs.length = sz := by simpa [hsz] using q1
        omega
      rw [hF _ (idx_lt hlt hjs), Nat.mul_comm, Nat.mul_add_mod, Nat.mod_eq_of_lt hjs]
      have := q3 j v hj
      simpa [Array.getD_eq_getD_getElem?, List.getD_eq_getElem?_getD] using this
    · cases hi
theorem new_ref {m : Inj} {w : World} {nm sz off len cap : Nat} {c : List (List AV)} {cc : Array Value} {T : TypeId} (h1 : off + len ≤ c.length) (h2 : len ≤ cap) (h3 : (off + cap) * sz ≤ cc.size) :
    VR (upd m nm (some (w.heap.size, 0))) (h.put nm (.mem sz c)) (w.alloc (.cells cc T)) (.ref nm off len) (.slice (some ⟨w.heap.size, off * sz, none⟩) len cap) := by
  refine .ref nm off len cap _ put_used_nm h2 fun sz' c' hg => ?_
  simp only [AHeap.put, if_true, Option.some.injEq, AObj.mem.injEq] at hg
  obtain ⟨rfl, rfl⟩ := hg
  exact ⟨w.heap.size, by simp [upd], h1, .inr rfl, cc, T, heap_alloc_new w _, h3⟩
/-- Noughts appended to nothing: a row that may be written. -/
theorem XOK.appz {sz bytes n : Nat} {zs : List AV} {x y : Opd} {k : IntKind} {a : Int} (hx : ev e x = some .nils) (hy : ev e y = some (.int k a)) (ha : a = n) (h0 : 0 < n) (hb : n * bytes ≤ 140737488355328) :
    XOK P N (.appz sz bytes zs x y) e h (some (.ref h.next 0 n)) (.new (.mem sz (List.replicate n zs))) := by
  subst ha
  intro o hc e2 hs m w act hr he
  obtain ⟨c, s, no, t, u, el, kk, i, z, hop, hcal, hargs, hat, hu, hu2, h1, h2, hi, hz, hzs, p1, p2, p3, rfl, rfl⟩ := cx_appz hc
  have hx2 : ev e2 x = some .nils := (ev_congr fun s h => hs s (by simp [xslots, h])).trans hx
  have hy2 : ev e2 y = some (.int k n) := (ev_congr fun s h => hs s (by simp [xslots, h])).trans hy
  have ha' : c.args = #[s, no] := by rw [← Array.toArray_toList (xs := c.args), hargs]
  have hat' : c.argTypes = #[t, u] := by rw [← Array.toArray_toList (xs := c.argTypes), hat]
  have e1 := he.eval h1 hx2
  have e3 := vr_int (he.eval h2 hy2)
  have hn1 : n * 1 ≤ n * i.bytes := Nat.mul_le_mul_left _ p2
  have hg := grownCap_ge w n 0 el
  have fin : ∀ cc : Array Value, (∀ k, k < n * i.size → cc.getD k undef = z.cells.getD (k % i.size) undef) → grownCap w n 0 el * i.size ≤ cc.size → (execOp act.eval o).run P w = .ok (.value (.slice (some ⟨w.heap.size, 0, none⟩) n (grownCap w n 0 el))) (w.drew.alloc (.cells cc el)) →
      OpOK P o act m h w h.next (some (.ref h.next 0 n)) (.new (.mem i.size (List.replicate n zs))) := by
    intro cc hcc hsz hrun
    have hr1 := hr.drew
    have hf := next_fresh hr
    obtain ⟨r1, r2⟩ := new_row (T := el) (cc := cc) (sz := i.size) (c := List.replicate n zs) hr1 hf (by
      simp only [List.length_replicate]
      have : n * i.size ≤ grownCap w n 0 el * i.size := Nat.mul_le_mul_right _ hg
      omega) (rowF_zero hzs p3 p1 hcc)
    refine ⟨_, _, r1, step_drew.trans r2, _, hrun, ?_⟩
    have := new_ref (m := m) (h := h) (w := w.drew) (nm := h.next) (sz := i.size) (off := 0) (len := n) (cap := grownCap w n 0 el) (c := List.replicate n zs) (cc := cc) (T := el) (by simp) hg (by simpa using hsz)
    simp only [Nat.zero_mul] at this
    exact this
  generalize hcx : act.eval s = cx at e1
  have hz1 : z.cells.size = i.size := p3
  have go : ∀ base, (Builtin.append_ #[t, u] o.type #[.slice base 0 0, .int k n]).run P w = .ok (.slice (some ⟨w.heap.size, 0, none⟩) n (grownCap w n 0 el)) (w.drew.alloc (.cells (Builtin.zeroCells z.cells n ++ Builtin.zeroCells z.cells (grownCap w n 0 el - n)) el)) := by
    intro base
    have hn : n ≠ 0 := by omega
    have hw : IntKind.i64.wrap (n : Int) = n := by rw [IntKind.wrap_i64]; omega
    have h63' : ¬ (9223372036854775807 < (n : Int)) := by omega
    have h48' : ¬ (281474976710656 < Builtin.nextslicecap n 0 * i.bytes) := by rw [nextslicecap_zero h0]; omega
    have h48i : ¬ (281474976710656 < (n : Int) * (i.bytes : Int)) := by
      rw [← Int.natCast_mul]
      omega
    have hneg : ¬ ((n : Int) < 0) := by omega
    have hns : ¬ (n * i.size = 0) := Nat.mul_ne_zero hn (by omega)
    cases base with
    | none => exact Lib.run_append_nil_zeros (P := P) w t u o.type el i z k kk hu hu2 hi hz n h0 p1 (by omega) (by omega)
    | some bb => simp [Builtin.append_, run_underlying hu, run_underlying hu2, sizeOf, typeInfo, zeroValue, hi, hz, asInt, asIntOf, hw, hn, hneg, hns, h63', h48', h48i, Question.forced, Builtin.firstCells, loadCells, loadCellsFrom, newRow, grownCap]
  have hrun : ∃ base, cx = .slice base 0 0 := by
    cases e1 with
    | nils0 => exact ⟨_, rfl⟩
    | nils1 ad => exact ⟨_, rfl⟩
  obtain ⟨base, rfl⟩ := hrun
  refine fin (Builtin.zeroCells z.cells n ++ Builtin.zeroCells z.cells (grownCap w n 0 el - n)) ?_ ?_ (by simp [execOp, hop, resolve, hcal, ha', hat', invoke, builtin, hcx, e3, go base])
  · intro k hk
    have := zeroCells_get (z := z.cells) (n := n) (k := k) (by rw [hz1]; exact hk)
    rw [Array.getD_eq_getD_getElem?, Array.getElem?_append_left (by simp [Builtin.zeroCells, hz1, hk]), this, hz1]
    rfl
  · simp only [Array.size_append, size_zeroCells, hz1, ← Nat.add_mul]
    exact Nat.mul_le_mul_right _ (by omega)
end
end Go.Abs

namespace Go.Abs
open Go

section
variable {P : Program} {N : Nat} {e e' : Env} {h h' : AHeap} {l : List CI} {Q : Exit → Env → AHeap → Prop}

def SubV (u v : AV) : Prop := ∀ (m : Inj) (h : AHeap) (w : World) (c : Value), VR m h w u c → VR m h w v c
theorem SubV.refl (u : AV) : SubV u u := fun _ _ _ _ hv => hv
theorem SubV.nil {sz : Nat} : SubV .nils (.imm sz []) := fun m h w c hv => by
  cases hv with
  | nils0 => exact .imm0 _
  | nils1 a => exact .imm1 _ _ _
theorem SubV.app {id g sz : Nat} {c : List (List AV)} : SubV (.app id g sz c) (.imm sz c) := fun m h w cv hv => by
  cases hv with
  | app0 => exact .imm0 _
  | app1 => exact .imm1 _ _ _
  | app _ _ _ _ b cap F hu hic hl hsc hrr hcap ht => exact .imm _ _ _ _ _ F hic hl hsc hrr hcap
inductive SubL : List AV → List AV → Prop
  | nil : SubL [] []
  | cons {u v : AV} {us vs : List AV} (h1 : SubV u v) (h2 : SubL us vs) : SubL (u :: us) (v :: vs)
theorem SubL.len {us vs : List AV} (hs : SubL us vs) : us.length = vs.length := by
  induction hs with
  | nil => rfl
  | cons _ _ ih => simp [ih]
theorem SubL.get {us vs : List AV} (hs : SubL us vs) : ∀ (i : Nat) (u v : AV), us[i]? = some u → vs[i]? = some v → SubV u v := by
  induction hs with
  | nil => intro i u v hu; simp at hu
  | cons h1 _ ih =>
    intro i u v hu hv
    cases i with
    | zero => cases hu; cases hv; exact h1
    | succ i => exact ih i u v (by simpa using hu) (by simpa using hv)
theorem SubV.agg {us vs : List AV} (hs : SubL us vs) (hsc : ∀ v ∈ vs, AV.scalar v = true) : SubV (.agg us) (.agg vs) := fun m h w c hv => by
  cases hv with
  | agg _ cs q1 q2 q3 =>
    refine .agg _ _ (by rw [← hs.len]; exact q1) hsc fun i v hi => ?_
    have hlt : i < us.length := by rw [hs.len]; exact (List.getElem?_eq_some_iff.1 hi).1
    exact hs.get i _ v (List.getElem?_eq_getElem hlt) hi _ _ _ _ (q3 i _ (List.getElem?_eq_getElem hlt))
theorem AC.sub {f : Nat} {us vs : List AV} {R : AV → AHeap → Prop} (hs : SubL us vs) (hac : AC P f vs h R) : AC P f us h R := fun m w cargs hr hl hv =>
  hac m w cargs hr (by rw [← hs.len]; exact hl) fun i v hi => by
    have hlt : i < us.length := by rw [hs.len]; exact (List.getElem?_eq_some_iff.1 hi).1
    exact hs.get i _ v (List.getElem?_eq_getElem hlt) hi _ _ _ _ (hv i _ (List.getElem?_eq_getElem hlt))
theorem AE.sub {f : Nat} {us vs : List AV} {r : AV} (hs : SubL us vs) (hac : AE P f vs h r h') : AE P f us h r h' := AC.sub hs hac
theorem HR.retell {m : Inj} {w : World} (hr : HR m h w) {id sz : Nat} {c c' : List (List AV)} (hg : h.get id = some (.mem sz c)) (hl : c'.length = c.length)
    (hrow : ∀ F, RowF m h w sz c F → RowF m h w sz c' F) : HR m (h.set id (some (.mem sz c'))) w ∧ Step m h w m (h.set id (some (.mem sz c'))) w := by
  obtain ⟨b, cc, T, q1, q2, q3, q4⟩ := hr.obj _ _ hg
  have wu : WUpd w w b := ⟨rfl, rfl, rfl, rfl, fun _ _ => rfl, fun cc T fz h => ⟨cc, h, rfl⟩⟩
  have hcm : Compat (.mem sz c) (.mem sz c') := ⟨rfl, by omega⟩
  have st := step_set hr hg q1 hcm wu
  exact ⟨hr.set hg q1 hcm wu ⟨b, cc, T, q1, q2, by rw [hl]; exact q3, (hrow _ q4).step st⟩, st⟩
theorem RowF.one_cell {m : Inj} {w : World} {sz i j : Nat} {c : List (List AV)} {cells : List AV} {u v : AV} (hi : c[i]? = some cells) (hj : cells[j]? = some u) (hsc : v.scalar = true) (hv : ∀ cv, VR m h w u cv → VR m h w v cv) :
    ∀ F, RowF m h w sz c F → RowF m h w sz (c.set i (cells.set j v)) F := by
  intro F ⟨q1, q2, q3⟩
  have hlt : i < c.length := (List.getElem?_eq_some_iff.1 hi).1
  refine ⟨fun x hx => ?_, fun x hx y hy => ?_, fun k cs hk t y hy => ?_⟩
  · rcases List.mem_or_eq_of_mem_set hx with hx | rfl
    · exact q1 x hx
    · simpa using q1 cells (List.mem_of_getElem? hi)
  · rcases List.mem_or_eq_of_mem_set hx with hx | rfl
    · exact q2 x hx y hy
    · rcases List.mem_or_eq_of_mem_set hy with hy | rfl
      · exact q2 cells (List.mem_of_getElem? hi) y hy
      · exact hsc
  · rw [List.getElem?_set] at hk
    split at hk
    · rename_i e
      subst e
      have hk' : cells.set j v = cs := by simpa [hlt] using hk
      subst hk'
      rw [List.getElem?_set] at hy
      split at hy
      · rename_i e; subst e
        have hy' : v = y := by simpa [(List.getElem?_eq_some_iff.1 hj).1] using hy
        subst hy'
        exact hv _ (q3 i cells hi j u hj)
      · exact q3 i cells hi t y hy
    · exact q3 k cs hk t y hy
/-- A cell in memory is told with less. -/
theorem Cvt.cell {id sz i j : Nat} {c : List (List AV)} {cells : List AV} {u v : AV} (hg : h.get id = some (.mem sz c)) (hi : c[i]? = some cells) (hj : cells[j]? = some u) (hsc : v.scalar = true) (hv : SubV u v) :
    Cvt e h e (h.set id (some (.mem sz (c.set i (cells.set j v))))) := fun N m w a hr he => by
  obtain ⟨k1, k2⟩ := hr.retell (c' := c.set i (cells.set j v)) hg (by simp) (RowF.one_cell hi hj hsc fun cv => hv _ _ _ _)
  exact ⟨m, k1, he.step k2, k2⟩
theorem vr_adopt {m : Inj} {w : World} {id g sz : Nat} {cv : Value} (hu : h.used id) (ht : TokC h id g 0 (m id = none)) (hv : VR m h w .nils cv) : VR m h w (.app id g sz []) cv := by
  cases hv with
  | nils0 => exact .app0 _ _ _ hu ht
  | nils1 a => exact .app1 _ _ _ _ hu ht
/-- An empty cell in memory, from here a row that grows, by a new token. -/
theorem Cvt.adoptM {id sz i j nx : Nat} {c : List (List AV)} {cells : List AV} (s : Nat) (hg : h.get id = some (.mem sz c)) (hi : c[i]? = some cells) (hj : cells[j]? = some .nils) (hn : h.next = nx) :
    Cvt e h e ((h.put nx (.tail 0 0)).set id (some (.mem sz (c.set i (cells.set j (.app nx 0 s [])))))) := fun N m w a hr he => by
  subst hn
  have hf := next_fresh hr
  have st := step_putv hr hf
  have hr1 := hr.putv hf
  have hne : id ≠ h.next := used_ne hf (hr.live _ _ hg)
  have hg1 : (h.put h.next (.tail 0 0)).get id = some (.mem sz c) := by simp only [AHeap.put, if_neg hne]; exact hg
  obtain ⟨k1, k2⟩ := hr1.retell (c' := c.set i (cells.set j (.app h.next 0 s []))) hg1 (by simp) (RowF.one_cell hi hj rfl fun cv => vr_adopt put_used_nm (tok_new (by simp [upd])))
  exact ⟨_, k1, (he.step st).step k2, st.trans k2⟩
end
end Go.Abs

namespace Go.Abs
open Go

section
variable {P : Program} {N : Nat} {m : Inj} {h : AHeap} {w : World} {e : Env} {a : Act} {nm : Nat} {o : Oper}
/-- A slice literal, run: its row stands in a new block. -/
theorem bsl_run (hr : HR m h w) (he : ER N m h w e a) {t el : TypeId} {i : TypeInfo} {z : Value} {n : Nat} {ps : Array (Nat × Operand)} {xs : List Opd} (hu : P.underlying t = some (.slice el)) (hi : P.info? el = some i) (hz : i.zero = some z)
    (hxs : ofL (fun (p : Nat × Operand) => ofOpd N p.2) ps.toList = some xs) (hbig : n * i.size ≤ 2 ^ 24) (hn : 0 < n) (hsz : 0 < i.size) (hzs : z.cells.size = i.size) (hidx : ps.toList.map (·.1) = List.range n) (ho : o.op = .buildSlice t n ps)
    {r : Option AV} {f : Eff} (hv : evalI nm (.bsl i.size xs) e h.get = some (r, f)) :
    ∃ (c : List (List AV)) (out : Array Value), r = some (.imm i.size c) ∧ c.length = n ∧ out.size = n * i.size ∧ RowF m h w i.size c (fun k => out.getD k undef) ∧ (execOp a.eval o).run P w = .ok (.value (.slice (some ⟨w.heap.size, 0, none⟩) n n)) (w.alloc (.cells out el)) := by
  have ofL_map : ∀ (l : List (Nat × Operand)) {ys : List Opd}, ofL (fun (p : Nat × Operand) => ofOpd N p.2) l = some ys → ofL (ofOpd N) (l.map (·.2)) = some ys := by
    intro l
    induction l with
    | nil => intro ys hy; simpa [ofL] using hy
    | cons p l ih =>
      intro ys hy
      simp only [ofL] at hy
      split at hy
      · rename_i y ys' h1 h2
        cases hy
        simp [ofL, h1, ih h2]
      · cases hy
  simp only [evalI] at hv
  split at hv
  · rename_i vs g1
    split at hv
    · rename_i c g2
      cases hv
      obtain ⟨e1, e2⟩ := he.evalL (ofL_map _ hxs) g1
      obtain ⟨c1, c2⟩ := cellsL_some g2
      have hpl : ps.toList.length = n := by have := congrArg List.length hidx; simpa using this
      have hvl : vs.length = n := by simp at e1; simpa [e1] using hpl
      have key : ∀ (k : Nat) (v : AV), vs[k]? = some v → ∃ p : Nat × Operand, ps.toList[k]? = some p ∧ VR m h w v (a.eval p.2) ∧ v.cs.length = i.size ∧ v.isTup = false ∧ c[k]? = some v.cs := by
        intro k v hk
        have hlt : k < ps.toList.length := by rw [hpl, ← hvl]; exact (List.getElem?_eq_some_iff.1 hk).1
        refine ⟨ps.toList[k], List.getElem?_eq_getElem hlt, ?_, (c2 k v hk).2.1, (c2 k v hk).2.2, (c2 k v hk).1⟩
        have := e2 k v hk
        simpa [List.getD_eq_getElem?_getD, List.getElem?_eq_getElem hlt, List.getElem?_map] using this
      obtain ⟨out, r1, r2, r3, r4⟩ := fill_seq i.size (ps.toList.map fun (p : Nat × Operand) => (p.1, a.eval p.2)) 0 ((Array.range (n * i.size)).map (z.cells[· % z.cells.size]!))
        (by simp only [List.map_map, List.length_map, hpl]; rw [show ((fun x : Nat × Value => x.1) ∘ fun p : Nat × Operand => (p.1, a.eval p.2)) = (·.1) from rfl, hidx, List.range_eq_range'])
        (fun q hq => by
          obtain ⟨k, hk, rfl⟩ := List.mem_iff_getElem.1 hq
          simp only [List.length_map] at hk
          have hkv : k < vs.length := by omega
          obtain ⟨p, hp, hvr, hl, ht, _⟩ := key k vs[k] (List.getElem?_eq_getElem hkv)
          have := (vr_cells hvr (isTup_ne ht)).1
          have hp' : ps.toList[k] = p := by simpa [List.getElem?_eq_getElem hk] using hp
          simp only [List.getElem_map, hp']
          omega)
        (by simp [hpl])
      have hne : ¬ (n * i.size = 0) := by have := Nat.mul_pos hn hsz; omega
      have hcl : c.length = n := by omega
      have hmem : ∀ x ∈ c, ∃ (k : Nat) (v : AV), vs[k]? = some v ∧ x = v.cs := by
        intro x hx
        obtain ⟨k, hk, rfl⟩ := List.mem_iff_getElem.1 hx
        have hkv : k < vs.length := by omega
        have := (c2 k _ (List.getElem?_eq_getElem hkv)).1
        exact ⟨k, vs[k], List.getElem?_eq_getElem hkv, by rw [List.getElem?_eq_getElem hk] at this; simpa using this⟩
      refine ⟨c, out, rfl, hcl, by rw [r2]; simp, ⟨fun x hx => ?_, fun x hx => ?_, fun k cells hk j u hj => ?_⟩, ?_⟩
      · obtain ⟨k, v, hk, rfl⟩ := hmem x hx
        exact (c2 k v hk).2.1
      · obtain ⟨k, v, hk, rfl⟩ := hmem x hx
        obtain ⟨p, hp, hvr, _, ht, _⟩ := key k v hk
        exact (vr_cells hvr (isTup_ne ht)).2.1
      · have hkl : k < vs.length := by have := (List.getElem?_eq_some_iff.1 hk).1; omega
        obtain ⟨p, hp, hvr, hl, ht, hck⟩ := key k vs[k] (List.getElem?_eq_getElem hkl)
        rw [hk] at hck
        cases hck
        have hjl : j < i.size := by rw [← hl]; exact (List.getElem?_eq_some_iff.1 hj).1
        have := r4 k (p.1, a.eval p.2) (by simp [hp]) j hjl
        rw [Nat.zero_add] at this
        show VR m h w u (out.getD (k * i.size + j) undef)
        rw [this]
        exact (vr_cells hvr (isTup_ne ht)).2.2 j u hj
      · have hbig' : ¬ (16777216 < n * i.size) := by simp at hbig; omega
        have r1' := r1
        simp only [execOp, ho, Instr.buildSlice, Sem.run_bind, Sem.run_pure, Result.andThen_ok, run_underlying hu, run_sizeOf' hi, zeroValue, run_typeInfo' hi, hz]
        simp only [show (2 : Nat) ^ 24 = 16777216 from rfl, gt_iff_lt, hbig', if_false, hne, Sem.run_bind, Sem.run_pure, Result.andThen_ok, run_typeInfo' hi, hz]
        have hmap : (ps.map fun (x : Nat × Operand) => (x.1, a.eval x.2)).toList = ps.toList.map fun (p : Nat × Operand) => (p.1, a.eval p.2) := by simp
        rw [hmap, r1']
        simp [newRow]
    · cases hv
  · cases hv

theorem cx_bsl {sz : Nat} {xs : List Opd} (hc : compileOp P N o = some (.bsl sz xs)) : ∃ t n ps el i z, o.op = .buildSlice t n ps ∧ P.underlying t = some (.slice el) ∧ P.info? el = some i ∧ i.zero = some z ∧ ofL (fun (p : Nat × Operand) => ofOpd N p.2) ps.toList = some xs ∧ n * i.size ≤ 2 ^ 24 ∧ 0 < n ∧ 0 < i.size ∧ z.cells.size = i.size ∧ ps.toList.map (·.1) = List.range n ∧ sz = i.size := by
  cases hop : o.op <;> simp only [compileOp, hop] at hc <;> try (cases hc; done)
  case buildSlice t n ps =>
    split at hc
    · split at hc
      · split at hc
        · cases hc
        · split at hc
          · split at hc
            · rename_i hcond; cases hc; exact ⟨_, _, _, _, _, _, rfl, ‹_›, ‹_›, ‹_›, ‹_›, hcond.1, hcond.2.1, hcond.2.2.1, hcond.2.2.2.1, hcond.2.2.2.2, rfl⟩
            · cases hc
          · cases hc
      · cases hc
    · cases hc
  all_goals
    (repeat' split at hc
     all_goals first
       | (cases hc; done)
       | (rw [Option.map_eq_some_iff] at hc; obtain ⟨_, _, h⟩ := hc; cases h; done)
       | contradiction)
end

section
variable {P : Program} {N : Nat} {e e' : Env} {h h' : AHeap} {l : List CI} {Q : Exit → Env → AHeap → Prop}

/-- An operation that is a plain one, by what it does at the real state, in any surrounding. -/
theorem FX.of {d : Option Nat} {i : Ins} {g : Option (Nat × Bool)} {r : Option AV} {f : Eff} (hp : i.plain = true) (hg : met e g)
    (hx : ∀ (o : Oper), compileOp P N o = some i → ∀ e2, (∀ s ∈ islots i, lk s e2 = lk s e) → ∀ (m : Inj) (w : World) (a : Act), HR m h w → ER N m h w e2 a → OpOK P o a m h w h.next r f) : FX P N ⟨d, i, g⟩ e h r (f.on h.next h) := by
  intro ops j o ho hc e2 hs m w a K Q hr he hk
  have hraw := comp_plain hc hp
  rcases compI_ok hc with ⟨hb1, hb2⟩ | ⟨hd, hdst, _, hgd⟩
  · have hb : i = .bad := hb1
    subst hb; cases hp
  · obtain ⟨w1, w2⟩ := wanted_of he hgd
    have hi : ∀ s ∈ islots i, lk s e2 = lk s e := fun s h => hs s (by unfold cslots; split <;> simp [h])
    have hw : Region.wanted o (yielded ops a.tmps) = true := by
      cases g with
      | none => exact w1 rfl
      | some sb =>
        obtain ⟨s, b⟩ := sb
        have hl : lk s e2 = some (.bool b) := (hs s (by simp [cslots])).trans hg
        rw [w2 s b b rfl hl]; simp
    simp only [wpOp, ho]
    rw [if_pos hw]
    left
    obtain ⟨m', w', hr', st, hres⟩ := hx o hraw e2 hi m w a hr he
    have hd' : d = o.dst := hd
    unfold Oper.wp
    cases r with
    | some v =>
      obtain ⟨cv, hrun, hv⟩ := hres
      rw [hrun, Oper.upon_value]
      refine hk m' w' _ hr' ?_ st
      show ER N m' _ w' (putR d (some v) e2) _
      rw [hd']
      exact (he.step st).putR hdst hv
    | none =>
      rw [hres, Oper.upon_skip]
      refine hk m' w' _ hr' ?_ st
      show ER N m' _ w' (putR d none e2) _
      rw [hd']
      exact (he.step st).skipR _ _
/-- A literal that may be written. -/
theorem FX.bslM {d : Option Nat} {sz n : Nat} {xs : List Opd} {g : Option (Nat × Bool)} {vs : List AV} {c : List (List AV)} (hv : evL e xs = some vs) (hc : cellsL sz vs = some c) (hl : c.length = n) (hg : met e g) : FX P N ⟨d, .bsl sz xs, g⟩ e h (some (.ref h.next 0 n)) (h.put h.next (.mem sz c)) := by
  refine FX.of (f := .new (.mem sz c)) rfl hg fun o ho e2 hs m w a hr he => ?_
  obtain ⟨t, n', ps, el, i, z, hop, hu, hi, hz, hxs, p1, p2, p3, p4, p5, rfl⟩ := cx_bsl ho
  have hv2 : evL e2 xs = some vs := (evL_congr fun s h => hs s (by simp [islots, h])).trans hv
  have hev : evalI h.next (.bsl i.size xs) e2 h.get = some (some (.imm i.size c), .none) := by simp only [evalI, hv2, hc]
  obtain ⟨c', out, q1, q2, q3, q4, q5⟩ := bsl_run hr he hu hi hz hxs p1 p2 p3 p4 p5 hop hev
  cases q1
  have hn : n = n' := by omega
  subst hn
  have hf := next_fresh hr
  obtain ⟨r1, r2⟩ := new_row (T := el) (cc := out) hr hf (by rw [q2, q3]; exact Nat.le_refl _) q4
  refine ⟨_, _, r1, r2, _, q5, ?_⟩
  have := new_ref (m := m) (h := h) (w := w) (nm := h.next) (sz := i.size) (off := 0) (len := n) (cap := n) (c := c) (cc := out) (T := el) (by omega) (Nat.le_refl _) (by rw [q3]; simp)
  simp only [Nat.zero_mul] at this
  exact this

theorem cx_app {o : Oper} {sz bytes : Nat} {x y : Opd} (hc : compileOp P N o = some (.app sz bytes x y)) : ∃ c s n t el i z, o.op = .call c ∧ c.callee = .builtin .append ∧ c.args.toList = [s, n] ∧ c.argTypes.toList = [t, t] ∧ P.underlying t = some (.slice el) ∧
    ofOpd N s = some x ∧ ofOpd N n = some y ∧ P.info? el = some i ∧ i.zero = some z ∧ 0 < i.size ∧ 0 < i.bytes ∧ z.cells.size = i.size ∧ sz = i.size ∧ bytes = i.bytes := by
  cases hop : o.op <;> simp only [compileOp, hop] at hc <;> try (cases hc; done)
  case call c =>
    repeat' split at hc
    all_goals first
      | (cases hc; done)
      | (rename_i hcond; cases hc; obtain ⟨q1, q2, q3, q4, q5⟩ := hcond; subst q1; subst q2; exact ⟨_, _, _, _, _, _, _, rfl, ‹_›, ‹_›, ‹_›, ‹_›, ‹_›, ‹_›, ‹_›, ‹_›, q3, q4, q5, rfl, rfl⟩)
      | contradiction
  all_goals
    (repeat' split at hc
     all_goals first
       | (cases hc; done)
       | (rw [Option.map_eq_some_iff] at hc; obtain ⟨_, _, h⟩ := hc; cases h; done)
       | contradiction)
/-- An append to nothing that is grown no more. -/
theorem FX.appI {d : Option Nat} {sz bytes : Nat} {x y : Opd} {g : Option (Nat × Bool)} {v : AV} {c : List (List AV)} (hx : ev e x = some .nils) (hy : ev e y = some v) (hc : rdS h.get sz v = some c) (hb : c.length * bytes ≤ 140737488355328) (hg : met e g) : FX P N ⟨d, .app sz bytes x y, g⟩ e h (some (.imm sz c)) h := by
  refine FX.of (f := .none) rfl hg fun o ho e2 hs m w a hr he => ?_
  obtain ⟨cl, s, n, t, el, i, z, hop, hcal, hargs, hat, hu, h1, h2, hi, hz, p1, p2, p3, rfl, rfl⟩ := cx_app ho
  have hx2 : ev e2 x = some .nils := (ev_congr fun s h => hs s (by simp [islots, h])).trans hx
  have hy2 : ev e2 y = some v := (ev_congr fun s h => hs s (by simp [islots, h])).trans hy
  have ha' : cl.args = #[s, n] := by rw [← Array.toArray_toList (xs := cl.args), hargs]
  have hat' : cl.argTypes = #[t, t] := by rw [← Array.toArray_toList (xs := cl.argTypes), hat]
  have e1 := he.eval h1 hx2
  have e3 := he.eval h2 hy2
  have hbase : ∃ base, a.eval s = .slice base 0 0 := by
    generalize a.eval s = cx at e1
    cases e1 with
    | nils0 => exact ⟨_, rfl⟩
    | nils1 ad => exact ⟨_, rfl⟩
  obtain ⟨base, hcx⟩ := hbase
  obtain ⟨w', cv, q1, q2, q3, q4⟩ := append_imm (P := P) (ty := o.type) (base := base) hr hu hi hz p1 p2 p3 e3 hc hb
  exact ⟨m, w', q2, q3, cv, by simp [execOp, hop, resolve, hcal, ha', hat', invoke, builtin, hcx, q1], q4⟩

theorem cx_strish {o : Oper} {x : Opd} (hc : compileX P N o = some (.strish x)) : ∃ s d xo el, o.op = .convert s d xo ∧ s = d ∧ P.underlying s = some (.slice el) ∧ P.underlying el = some (.int .u8) ∧ ofOpd N xo = some x := by
  cases hop : o.op <;> simp only [compileX, hop] at hc <;> try (cases hc; done)
  case convert s d xo =>
    repeat' split at hc
    all_goals first
      | (cases hc; exact ⟨_, _, _, _, rfl, ‹s = d›, ‹P.underlying s = some _›, ‹_›, ‹_›⟩)
      | (cases hc; done)
  all_goals
    (repeat' split at hc
     all_goals first
       | (cases hc; done)
       | (rw [Option.map_eq_some_iff] at hc; obtain ⟨_, _, h⟩ := hc; cases h; done)
       | contradiction)
theorem mark_block {w : World} {b : Nat} {cc : Array Value} {T : TypeId} {fz : Nat × Nat} (hb : w.heap[b]? = some (.cells cc T fz)) (n : Nat) : WMark w (w.freeze ⟨b, n, none⟩ 1) b := by
  have hlt : b < w.heap.size := (Array.getElem?_eq_some_iff.1 hb).1
  have hs : w.freeze ⟨b, n, none⟩ 1 = { w with heap := (w.freeze ⟨b, n, none⟩ 1).heap } := by
    unfold World.freeze; split <;> rfl
  have hh : (w.freeze ⟨b, n, none⟩ 1).heap.size = w.heap.size ∧ (∀ k, k ≠ b → (w.freeze ⟨b, n, none⟩ 1).heap[k]? = w.heap[k]?) ∧ ∃ fz', (w.freeze ⟨b, n, none⟩ 1).heap[b]? = some (.cells cc T fz') := by
    unfold World.freeze
    rw [if_neg (by decide)]
    refine ⟨by simp, fun k hk => ?_, ?_⟩
    · simp only [Array.getElem?_modify]
      rw [if_neg (fun e => hk e.symm)]
    · simp only [Array.getElem?_modify, hb]
      simp
  obtain ⟨h1, h2, fz', h3⟩ := hh
  refine ⟨by rw [hs], by rw [hs], by rw [hs], h1, h2, fun o => ?_⟩
  simp only [World.cell?, h3, hb]
/-- A literal's row is marked: from here it is written no more. -/
theorem XOK.strish {x : Opd} {id n : Nat} {c : List (List AV)} (hx : ev e x = some (.ref id 0 n)) (hg : h.get id = some (.mem 1 c)) (hl : c.length = n) (h0 : 0 < n) : XOK P N (.strish x) e h (some (.imm 1 c)) (.del id) := by
  intro o hc e2 hs m w act hr he
  obtain ⟨s, _, xo, el, hop, rfl, u1, u2, h1⟩ := cx_strish hc
  have hx2 : ev e2 x = some (.ref id 0 n) := (ev_congr fun s h => hs s (by simp [xslots, h])).trans hx
  have hv := he.eval h1 hx2
  obtain ⟨b, cc, T, q1, q2, q3, q4⟩ := hr.obj _ _ hg
  generalize hcx : act.eval xo = cx at hv
  cases hv with
  | ref _ _ _ cap ad hu hcap ha =>
    obtain ⟨b', hb', hle, had, cc', T', hcc, hsz⟩ := ha _ _ hg
    rw [q1] at hb'; cases hb'
    obtain rfl : ad = ⟨b, 0 * 1, none⟩ := by
      rcases had with h5 | h5
      · omega
      · exact h5
    have hshape : w.shape? b = some (T, cc.size) := by unfold World.shape?; rw [q2]
    have wm := mark_block q2 cc.size
    have st := step_mark hr hg q1 wm
    refine ⟨m, w.freeze ⟨b, cc.size, none⟩ 1, hr.mark hg q1 wm, st, .slice (some ⟨b, 0 * 1, none⟩) n cap, ?_, ?_⟩
    · simp [execOp, hop, hcx, convert, run_underlying u1, run_underlying u2, markStringish, hshape]
    · have := VR.imm (m := m) (h := h.set id none) (w := w.freeze ⟨b, cc.size, none⟩ 1) 1 c b 0 cap (fun k => cc.getD k undef) (fun k hk => ⟨?_, ?_⟩) q4.1 q4.2.1 (fun i cells hi j v hj => (q4.2.2 i cells hi j v hj).step st) (by omega)
      · rw [hl] at this; exact this
      · rw [wm.cell, Nat.zero_add, cell_of_row w b k cc T (0, 0) q2]
        simp [Array.getD_eq_getD_getElem?, show k < cc.size by omega]
      · rintro ⟨j, t, ⟨x, hx⟩, hm, _⟩
        by_cases e : j = id
        · simp [AHeap.set, e] at hx
        · simp only [AHeap.set, if_neg e] at hx
          exact e (hr.inj j id x _ b t 0 hx hg hm q1)

theorem cx_slc3 {o : Oper} {sz : Nat} {x mx : Opd} {lo hi : Option Opd} (hc : compileX P N o = some (.slc3 sz x lo hi mx)) : ∃ t xo lo' hi' mo el i, o.op = .slice t xo lo' hi' (some mo) ∧ P.underlying t = some (.slice el) ∧ P.info? el = some i ∧ ofOpd N xo = some x ∧ ofOpd N mo = some mx ∧ OOpd N lo' lo ∧ OOpd N hi' hi ∧ sz = i.size := by
  cases hop : o.op <;> simp only [compileX, hop] at hc <;> try (cases hc; done)
  case slice t xo lo' hi' mo =>
    cases mo with
    | none =>
      repeat' split at hc
      all_goals first
        | (cases hc; done)
        | contradiction
        | exact absurd ‹Op.slice _ _ _ _ none = Op.slice _ _ _ _ (some _)› (by simp)
    | some mo =>
      simp only at hc
      split at hc
      · split at hc
        · cases lo' <;> cases hi' <;> simp only at hc
          · cases hc; exact ⟨_, _, _, _, _, _, _, rfl, ‹_›, ‹_›, ‹_›, ‹_›, trivial, trivial, rfl⟩
          · rw [Option.map_eq_some_iff] at hc; obtain ⟨_, h1, h2⟩ := hc; cases h2; exact ⟨_, _, _, _, _, _, _, rfl, ‹_›, ‹_›, ‹_›, ‹_›, trivial, h1, rfl⟩
          · rw [Option.map_eq_some_iff] at hc; obtain ⟨_, h1, h2⟩ := hc; cases h2; exact ⟨_, _, _, _, _, _, _, rfl, ‹_›, ‹_›, ‹_›, ‹_›, h1, trivial, rfl⟩
          · split at hc
            · rename_i h1 h2; cases hc; exact ⟨_, _, _, _, _, _, _, rfl, ‹_›, ‹_›, ‹_›, ‹_›, h1, h2, rfl⟩
            · cases hc
        · cases hc
      · cases hc
  all_goals
    (repeat' split at hc
     all_goals first
       | (cases hc; done)
       | (rw [Option.map_eq_some_iff] at hc; obtain ⟨_, _, h⟩ := hc; cases h; done)
       | contradiction)
/-- x[:0:0], x[0:0:0]: nothing, and no room. -/
theorem XOK.slc00 {sz : Nat} {x mx y : Opd} {k k' : IntKind} {u : AV} (hx : ev e x = some u) (hu : ∃ n, rdL h.get u = some n) (hh : ev e y = some (.int k 0)) (hm : ev e mx = some (.int k' 0)) : XOK P N (.slc3 sz x none (some y) mx) e h (some .nils) .none := by
  intro o hc e2 hs m w act hr he
  obtain ⟨t, xo, lo', hi', mo, el, i, hop, hu1, hi, h1, h2, h3, h4, rfl⟩ := cx_slc3 hc
  cases lo' with
  | some _ => exact h3.elim
  | none =>
    cases hi' with
    | none => exact h4.elim
    | some ho =>
      have hx2 := (ev_congr fun s h => hs s (by simp [xslots, h])).trans hx
      have hh2 := (ev_congr fun s h => hs s (by simp [xslots, bslots, h])).trans hh
      have hm2 := (ev_congr fun s h => hs s (by simp [xslots, h])).trans hm
      obtain ⟨n, hn⟩ := hu
      obtain ⟨ad, cap, hcx⟩ := rdL_vr (he.eval h1 hx2) hn
      have b1 := vr_int (he.eval h4 hh2)
      have b2 := vr_int (he.eval h2 hm2)
      refine OpOK.pure hr (cv := .slice ad 0 0) ?_ (by cases ad with | none => exact .nils0 | some ad => exact .nils1 ad)
      have hb : (Instr.sliceBounds true n cap none (some (.int k 0)) (some (.int k' 0))).run P w = .ok (0, 0, 0) w := by
        simp [Instr.sliceBounds, Instr.sliceBound, asIntOf]
      simp [execOp, hop, Instr.sliceAt, Instr.slice, run_underlying hu1, hcx, b1, b2, hb, run_sizeOf' hi]
/-- x[:n:n] of a row that may be written. -/
theorem XOK.slcNN {sz : Nat} {x mx y : Opd} {k k' : IntKind} {id l n : Nat} {a b : Int} (hx : ev e x = some (.ref id 0 l)) (hh : ev e y = some (.int k a)) (hm : ev e mx = some (.int k' b)) (ha : a = n) (hb : b = n) (hn : n ≤ l) (hg : ∃ c, h.get id = some (.mem sz c)) : XOK P N (.slc3 sz x none (some y) mx) e h (some (.ref id 0 n)) .none := by
  subst ha hb
  intro o hc e2 hs m w act hr he
  obtain ⟨t, xo, lo', hi', mo, el, i, hop, hu1, hi, h1, h2, h3, h4, rfl⟩ := cx_slc3 hc
  cases lo' with
  | some _ => exact h3.elim
  | none =>
    cases hi' with
    | none => exact h4.elim
    | some ho =>
      have hx2 := (ev_congr fun s h => hs s (by simp [xslots, h])).trans hx
      have hh2 := (ev_congr fun s h => hs s (by simp [xslots, bslots, h])).trans hh
      have hm2 := (ev_congr fun s h => hs s (by simp [xslots, h])).trans hm
      have hv := he.eval h1 hx2
      have b1 := vr_int (he.eval h4 hh2)
      have b2 := vr_int (he.eval h2 hm2)
      generalize hcx : act.eval xo = cx at hv
      cases hv with
      | ref _ _ _ cap ad hu hcap ha =>
        obtain ⟨c, hg⟩ := hg
        obtain ⟨b', hb', hle, had, cc', T', hcc, hsz⟩ := ha _ _ hg
        have hb : (Instr.sliceBounds true l cap none (some (.int k (n : Int))) (some (.int k' (n : Int)))).run P w = .ok (0, n, n) w := by
          have q1 : (n : Int) ≤ (cap : Int) := by omega
          have q2 : n ≤ cap := by omega
          simp [Instr.sliceBounds, Instr.sliceBound, asIntOf, q2]
        have hvv : VR m h w (.ref id 0 n) (.slice (some ad) n n) := .ref id 0 n n ad hu (Nat.le_refl _) fun sz' c' hg' => by
          obtain ⟨b2, hb2, hle2, had2, cc2, T2, hcc2, hsz2⟩ := ha _ _ hg'
          refine ⟨b2, hb2, by omega, ?_, cc2, T2, hcc2, ?_⟩
          · rcases had2 with h5 | h5
            · left; omega
            · right; exact h5
          · have : (0 + n) * sz' ≤ (0 + cap) * sz' := Nat.mul_le_mul_right _ (by omega)
            omega
        refine OpOK.pure hr (cv := .slice (some ad) n n) ?_ hvv
        have hadd : ad.add (0 * i.size) = ad := by simp [Addr.add]
        have hrun : (Instr.slice t (.slice (some ad) l cap) none (some (.int k (n : Int))) (some (.int k' (n : Int)))).run P w = .ok (.slice (some ad) n n) w := by
          simp only [Instr.slice, Sem.run_bind, run_underlying hu1, Result.andThen_ok, hb, run_sizeOf' hi, Sem.run_pure, Option.map_some, hadd, Nat.sub_zero, ite_self]
        have hrun2 : (Instr.sliceAt t (.slice (some ad) l cap) none (some (.int k (n : Int))) (some (.int k' (n : Int)))).run P w = .ok (.slice (some ad) n n) w := by
          simp only [Instr.sliceAt, Sem.run_bind, run_underlying hu1, Result.andThen_ok, hrun]
        simp only [execOp, hop, hcx, b1, b2, Option.map_some, Option.map_none, Sem.run_bind, hrun2, Result.andThen_ok, Sem.run_pure]

theorem cx_callx {o : Oper} {f : Nat} {xs : List Opd} (hc : compileX P N o = some (.callx f xs)) : ∃ c fn, o.op = .call c ∧ c.callee = .value (.func f) ∧ P.funcs[f]? = some fn ∧ fn.body = none ∧ ofL (ofOpd N) c.args.toList = some xs := by
  obtain ⟨c, hop⟩ := cx_call hc trivial
  simp only [compileX, hop] at hc
  repeat' split at hc
  all_goals first
    | (cases hc; exact ⟨_, _, hop, ‹_›, ‹_›, by simpa using ‹Option.isNone _ = true›, ‹_›⟩)
    | (cases hc; done)
theorem digits_get : ∀ (n t : Nat) (acc : Array Value), (∀ k, k < acc.size → ∃ q : Int, acc.getD k undef = .int .u8 q) → ∀ k, k < (Extern.BytealgMakeNoZero.digits n t acc).size → ∃ q : Int, (Extern.BytealgMakeNoZero.digits n t acc).getD k undef = .int .u8 q
  | 0, _, acc, ha, k, hk => ha k hk
  | n + 1, t, acc, ha, k, hk => by
    rw [Extern.BytealgMakeNoZero.digits] at hk ⊢
    refine digits_get n _ _ (fun j hj => ?_) k hk
    by_cases hlt : j < acc.size
    · obtain ⟨q, hq⟩ := ha j hlt
      exact ⟨q, by simpa [Array.getD_eq_getD_getElem?, Array.getElem?_push_lt hlt, hlt] using hq⟩
    · simp only [Array.size_push] at hj
      obtain rfl : j = acc.size := by omega
      exact ⟨Int.ofNat (t % 256), by simp [Array.getD_eq_getD_getElem?]⟩
/-- New memory of any bytes. -/
theorem FQ.noZero {d : Option Nat} {f n : Nat} {x : Opd} {g : Option (Nat × Bool)} {a : Int} {fn : Func} {t el : TypeId} (hf : P.funcs[f]? = some fn) (hnm : fn.name = "internal/bytealg.MakeNoZero") (hx1 : Extern.findNext fn = none) (hx2 : Extern.find fn = some (Extern.BytealgMakeNoZero.makeNoZero fn.params fn.resultTypes)) (hres : fn.resultTypes = #[t]) (ht : P.underlying t = some (.slice el))
    (hx : ev e x = some (.int .i64 a)) (ha : a = n) (hn : n ≤ 1000000) (hg : met e g) :
    FQ P N ⟨d, .raw (.callx f [x]), g⟩ e h (fun r h' => ∃ q : Nat → Int, r = some (.ref h.next 0 n) ∧ h' = h.put h.next (.mem 1 ((List.range n).map fun i => [.int .u8 (q i)]))) := by
  subst ha
  refine FQ.of (by simp) hg fun ops o hc m w act hr he => ?_
  obtain ⟨c, fn', hop, hcal, hfn, hbody, hxs⟩ := cx_callx (compI_raw hc rfl)
  rw [hf] at hfn; cases hfn
  obtain ⟨hl1, hl2⟩ := he.evalL hxs (show evL e [x] = some [.int .i64 n] by simp [evL, hx])
  have e1 : ∃ y, c.args.toList = [y] := by
    cases hcl : c.args.toList with
    | nil => rw [hcl] at hl1; simp at hl1
    | cons y ys =>
      cases ys with
      | nil => exact ⟨y, rfl⟩
      | cons z zs => rw [hcl] at hl1; simp at hl1
  obtain ⟨y, hy⟩ := e1
  have ha' : c.args = #[y] := by rw [← Array.toArray_toList (xs := c.args), hy]
  have e2 := vr_int (hl2 0 _ rfl)
  rw [hy] at e2
  simp at e2
  have hrun : ∃ cs : Array Value, (Extern.BytealgMakeNoZero.makeNoZero fn.params #[t] #[.int .i64 n]).run P w = .ok (.slice (some ⟨w.heap.size, 0, none⟩) n cs.size) (w.drew.drew.alloc (.cells cs el)) ∧ n ≤ cs.size ∧ ∀ k, k < cs.size → ∃ q : Int, cs.getD k undef = .int .u8 q := by
    have hdef : Extern.BytealgMakeNoZero.makeNoZero fn.params #[t] #[.int .i64 n] =
        (do
          let .slice elem ← underlying t | stuck "bytealg.MakeNoZero: slice type expected"
          if (n : Int) < 0 || (n : Int) > 2 ^ 48 then runtimePanic (.error "makeslice: len out of range")
          let cap ← choose (.appendCap (n : Int).toNat 0 elem)
          askRoom cap
          let bytes ← choose (.extern "internal/bytealg.MakeNoZero.bytes" 0)
          let a ← newRow elem (Extern.BytealgMakeNoZero.digits cap bytes #[])
          pure (.slice (some a) (n : Int).toNat cap)) := rfl
    refine ⟨Extern.BytealgMakeNoZero.digits (grownCap w n 0 el) ((Question.extern "internal/bytealg.MakeNoZero.bytes" 0).cut (w.tape (w.drawn + 1) (.extern "internal/bytealg.MakeNoZero.bytes" 0))) #[], ?_, ?_, digits_get _ _ _ (fun k hk => by simp at hk)⟩
    · rw [hdef]
      have h1 : ¬ (n : Int) < 0 := by omega
      have h2 : ¬ (281474976710656 : Int) < (n : Int) := by omega
      simp [run_underlying ht, h1, h2, Question.forced, newRow, Lib.size_digits, grownCap]
    · rw [Lib.size_digits]
      simpa using grownCap_ge w n 0 el
  obtain ⟨cs, hrun, p1, p2⟩ := hrun
  let q : Nat → Int := fun k => if hk : k < cs.size then Classical.choose (p2 k hk) else 0
  have hq : ∀ k, k < cs.size → cs.getD k undef = .int .u8 (q k) := fun k hk => by
    show _ = Value.int .u8 (dite _ _ _)
    rw [dif_pos hk]
    exact Classical.choose_spec (p2 k hk)
  have hr2 := hr.drew.drew
  have hf2 := next_fresh hr
  obtain ⟨r1, r2⟩ := new_row (w := w.drew.drew) (T := el) (cc := cs) (sz := 1) (c := (List.range n).map fun i => [AV.int .u8 (q i)]) hr2 hf2 (by simpa using p1) ⟨fun x hx => by simp at hx; obtain ⟨_, _, rfl⟩ := hx; rfl, fun x hx v hv => by simp at hx; obtain ⟨_, _, rfl⟩ := hx; simp at hv; subst hv; rfl, fun i cells hi j v hj => by
    have hin : i < n := by simpa using (List.getElem?_eq_some_iff.1 hi).1
    rw [List.getElem?_map, List.getElem?_range hin] at hi
    cases hi
    rcases j with _ | j
    · cases hj
      show VR _ _ _ _ (cs.getD (i * 1 + 0) undef)
      rw [Nat.mul_one, Nat.add_zero, hq i (by omega)]
      exact .int _ _
    · simp at hj⟩
  have hbn : fn.body.isNone = true := by rw [hbody]; rfl
  have hnn : (fn.name == "runtime.NumGoroutine") = false := by rw [hnm]; decide
  refine ⟨_, .new (.mem 1 ((List.range n).map fun i => [AV.int .u8 (q i)])), ⟨q, rfl, rfl⟩, _, _, r1, step_drew.trans (step_drew.trans r2), .slice (some ⟨w.heap.size, 0, none⟩) n cs.size, ?_, ?_⟩
  · have hcf : (callFunc f #[.int .i64 n]).run P w = .ok (.value (.slice (some ⟨w.heap.size, 0, none⟩) n cs.size)) (w.drew.drew.alloc (.cells cs el)) := by
      rw [run_callFunc_extern hf hnn hbn hx1 hx2, hres, hrun]; rfl
    have hev : c.args.map act.eval = #[.int .i64 (n : Int)] := by rw [ha']; simp [e2]
    simp [execOp, hop, resolve, hcal, hev, Act.eval, Deferred.ofValue, invoke, hcf]
  · have := new_ref (m := m) (h := h) (w := w.drew.drew) (nm := h.next) (sz := 1) (off := 0) (len := n) (cap := cs.size) (c := (List.range n).map fun i => [AV.int .u8 (q i)]) (cc := cs) (T := el) (by simp) p1 (by simp)
    simp only [Nat.zero_mul] at this
    exact this
end
end Go.Abs

namespace Go.Abs
open Go

theorem Clo.mono {u u' : Nat → Prop} (hu : ∀ id, u id → u' id) {v : AV} (hc : Clo u v) : Clo u' v := by
  induction hc with
  | bool b => exact .bool b
  | int k n => exact .int k n
  | str s => exact .str s
  | nilp => exact .nilp
  | ptr id i off h => exact .ptr _ _ _ (hu _ h)
  | iptr sz c i off _ ih => exact .iptr _ _ _ _ ih
  | nils => exact .nils
  | imm sz c _ ih => exact .imm _ _ ih
  | app id g sz c h _ ih => exact .app _ _ _ _ (hu _ h) ih
  | ref id off len h => exact .ref _ _ _ (hu _ h)
  | nilm => exact .nilm
  | map id h => exact .map _ (hu _ h)
  | nilf => exact .nilf
  | func fn vs us _ _ ih1 ih2 => exact .func _ _ _ ih1 ih2
  | nili => exact .nili
  | iface t v _ ih => exact .iface _ _ ih
  | agg vs _ ih => exact .agg _ ih
  | tup vs _ ih => exact .tup _ ih
def CloObj (u : Nat → Prop) : AObj → Prop
  | .mem _ c => ∀ x ∈ c, ∀ v ∈ x, Clo u v
  | .tail _ _ => True
  | .map es => ∀ kv ∈ es, Clo u kv.1 ∧ Clo u kv.2
  | .loop _ _ _ es _ _ _ _ _ => ∀ sv ∈ es, Clo u sv.2
  | .dfr _ _ => True
theorem CloObj.mono {u u' : Nat → Prop} (hu : ∀ id, u id → u' id) {x : AObj} (hc : CloObj u x) : CloObj u' x := by
  cases x with
  | mem sz c => exact fun x hx v hv => (hc x hx v hv).mono hu
  | tail g n => trivial
  | map es => exact fun kv h => ⟨(hc kv h).1.mono hu, (hc kv h).2.mono hu⟩
  | loop => exact fun sv h => (hc sv h).mono hu
  | dfr => trivial

/-- Names that may be spoken of behind the call. -/
def Nm (h h' : AHeap) (id : Nat) : Prop := h'.used id ∨ ∃ x, h.get id = some x
/-- h' is what the call makes of h. -/
structure Ext (h h' : AHeap) : Prop where
  next : h.next ≤ h'.next
  gap : ∀ id, h'.gap id = true → h.gap id = true
  obj : ∀ id x, h'.get id = some x → h.get id = some x ∨ (Nm h h' id ∧ CloObj (Nm h h') x)
section
variable {P : Program} {N f : Nat} {cc : CC} {rcs : List RC} {vs : List AV} {h h' h1 : AHeap} {e e' : Env} {Q : Exit → Env → AHeap → Prop} {l : List CI}

theorem Ext.refl : Ext h h := ⟨Nat.le_refl _, fun _ h => h, fun _ _ h => .inl h⟩
theorem Ext.used (hx : Ext h h') {id : Nat} (hu : h.used id) : h'.used id := by
  refine ⟨Nat.lt_of_lt_of_le hu.1 hx.next, ?_⟩
  cases hg : h'.gap id with
  | false => rfl
  | true => have := hx.gap id hg; rw [hu.2] at this; cases this
theorem Ext.set (hx : Ext h h') {id : Nat} {x : AObj} (hn : Nm h h' id) (hc : CloObj (Nm h h') x) : Ext h (h'.set id (some x)) := by
  refine ⟨hx.next, hx.gap, fun j y hg => ?_⟩
  simp only [AHeap.set] at hg
  split at hg
  · rename_i e; subst e; cases hg; exact .inr ⟨hn, hc⟩
  · exact hx.obj j y hg
theorem Ext.del (hx : Ext h h') {id : Nat} : Ext h (h'.set id none) := by
  refine ⟨hx.next, hx.gap, fun j y hg => ?_⟩
  simp only [AHeap.set] at hg
  split at hg
  · cases hg
  · exact hx.obj j y hg
theorem Nm.put {nm id : Nat} {x : AObj} (hn : Nm h h' id) : Nm h (h'.put nm x) id := by
  rcases hn with hn | hn
  · exact .inl (put_used hn)
  · exact .inr hn
theorem Ext.put (hx : Ext h h') {nm : Nat} {x : AObj} (hc : CloObj (Nm h (h'.put nm x)) x) : Ext h (h'.put nm x) := by
  refine ⟨?_, fun id hg => ?_, fun j y hg => ?_⟩
  · have := hx.next; simp only [AHeap.put]; split <;> omega
  · simp only [AHeap.put] at hg
    split at hg
    · cases hg
    · exact hx.gap id hg
  · simp only [AHeap.put] at hg
    split at hg
    · rename_i e; subst e; cases hg; exact .inr ⟨.inl put_used_nm, hc⟩
    · rcases hx.obj j y hg with h5 | ⟨h5, h6⟩
      · exact .inl h5
      · exact .inr ⟨h5.put, h6.mono fun _ h => h.put⟩
theorem Nm.old {id : Nat} {x : AObj} (hg : h.get id = some x) : Nm h h' id := .inr ⟨x, hg⟩

/-- What a call that writes leaves: all else that it made is dropped. -/
structure EffQ (h' : AHeap) (rcs : List RC) (r : AV) (ex : Exit) (e : Env) (h1 : AHeap) : Prop where
  ex : ex = .ret ∨ ex = .normal
  keeps : Keeps h' h1
  res : ∃ rs, resA h1.get e rcs = some rs ∧ Fz h' h1 (fin rs) r
theorem EffQ.fin {x : Exit} {rs : List AV} {r : AV} (hex : x = .ret ∨ x = .normal) (hk : Keeps h' h1) (hr : resA h1.get e rcs = some rs) (hf : Fz h' h1 (Go.Abs.fin rs) r) : EffQ h' rcs r x e h1 := ⟨hex, hk, rs, hr, hf⟩
/-- The heap of the beginning, and the end of the call, told by what it answers and leaves. -/
theorem AC.eff {R : AV → AHeap → Prop} (hfn : FnIs P f N cc rcs) (hn : vs.length ≤ N)
    (hw : AW P N cc (fun ex e h1 => ∃ r h', Ext h h' ∧ EffQ h' rcs r ex e h1 ∧ R r h') (argE 0 vs) h) : AC P f vs h R := by
  have hac : AC P f vs h (fun r1 h1 => ∃ r h', Ext h h' ∧ Keeps h' h1 ∧ Fz h' h1 r1 r ∧ R r h') :=
    AC.intro hfn hn (hw.mono fun ex e h1 ⟨r, h', hx, ⟨q1, q2, rs, q3, q4⟩, q5⟩ => ⟨q1, rs, q3, r, h', hx, q2, q4, q5⟩)
  intro m w cargs hr hl hv
  refine (hac m w cargs hr hl hv).mono fun ex w' ⟨v, m', r1, h1, e1, g1, g2, g3, r, h', hx, hk, hz, hR⟩ => ?_
  have nm : ∀ id, Nm h h' id → h'.used id := fun id hn => by
    rcases hn with hn | ⟨x, hn⟩
    · exact hn
    · exact hx.used (hr.live id x hn)
  have live : ∀ id x, h'.get id = some x → h'.used id := fun id x hg => by
    rcases hx.obj id x hg with h5 | ⟨h5, _⟩
    · exact hx.used (hr.live id x h5)
    · exact nm id h5
  have hs : ∀ id x, h'.get id = some x → h1.get id = some x := fun id x hg => (hk.2 id (live id x hg)).trans hg
  have clo : ∀ id x, h'.get id = some x → CloObj h'.used x := fun id x hg => by
    rcases hx.obj id x hg with h5 | ⟨_, h5⟩
    · refine CloObj.mono (u := h.used) (fun id => hx.used) ?_
      have ho := hr.obj id x h5
      cases x with
      | mem sz c =>
        obtain ⟨_, _, _, _, _, _, p4⟩ := ho
        exact mem_idx fun i cells hi j v hj => (p4.2.2 i cells hi j v hj).clo
      | tail g n => trivial
      | map es =>
        obtain ⟨_, _, _, _, _, _, p4⟩ := ho
        intro kv hkv
        obtain ⟨i, hi, rfl⟩ := List.mem_iff_getElem.1 hkv
        have := p4 i _ _ (List.getElem?_eq_getElem hi)
        exact ⟨this.1.clo, this.2.clo⟩
      | loop =>
        obtain ⟨_, _, _, _, p4⟩ := ho
        exact fun sv hsv => (p4 sv.1 sv.2 hsv).clo
      | dfr => trivial
    · exact h5.mono nm
  have hr' : HR m' h' w' := {
    gapl := fun id hg => Nat.lt_of_lt_of_le (hr.gapl id (hx.gap id hg)) hx.next
    live := live
    inj := fun i j x y b s t hi hj => g1.inj i j x y b s t (hs i x hi) (hs j y hj)
    obj := fun id x hg => by
      have ho := g1.obj id x (hs id x hg)
      have hcl := clo id x hg
      cases x with
      | mem sz c =>
        obtain ⟨b, cc, T, q1, q2, q3, q4⟩ := ho
        exact ⟨b, cc, T, q1, q2, q3, q4.1, q4.2.1, fun i cells hi j v hj => (q4.2.2 i cells hi j v hj).restrict hs (hcl _ (List.mem_of_getElem? hi) _ (List.mem_of_getElem? hj))⟩
      | tail _ _ => exact ho
      | map es =>
        obtain ⟨b, ens, ck, q1, q2, q3, q4⟩ := ho
        exact ⟨b, ens, ck, q1, q2, q3, fun i k v hi => ⟨(q4 i k v hi).1.restrict hs (hcl _ (List.mem_of_getElem? hi)).1, (q4 i k v hi).2.restrict hs (hcl _ (List.mem_of_getElem? hi)).2⟩⟩
      | loop =>
        obtain ⟨q1, T, q2, q3, q4⟩ := ho
        exact ⟨q1, T, q2, q3, fun s v hi => (q4 s v hi).restrict hs (hcl _ hi)⟩
      | dfr => exact ho }
  have st : Step m h w m' h' w' := {
    os := g3.os
    tape := g3.tape
    output := g3.output
    size := g3.size
    kind := fun b cc T fz hb hf => g3.kind b cc T fz hb fun hf1 => hf fun id t x hg => hf1 id t x (hs id x hg)
    free := fun b hb hf => ⟨(g3.free b hb hf).1, fun id t x hg => (g3.free b hb hf).2 id t x (hs id x hg)⟩
    cell := fun b o v hc hn => ⟨(g3.cell b o v hc hn).1, fun ho => (g3.cell b o v hc hn).2 (own_sub hs ho)⟩
    used := fun _ hu => hx.used hu
    live := fun id x hu hg => g3.live id x hu (hs id x hg) }
  exact ⟨v, m', r, h', e1, hr', hz.vr g1 hs live g2, st, hR⟩
theorem AE.effQ {r : AV} (hfn : FnIs P f N cc rcs) (hn : vs.length ≤ N) (hx : Ext h h') (hw : AW P N cc (EffQ h' rcs r) (argE 0 vs) h) : AE P f vs h r h' :=
  AC.eff hfn hn (hw.mono fun _ _ _ hq => ⟨r, h', hx, hq, rfl, rfl⟩)

theorem heap_ext {a b : AHeap} (h1 : ∀ id, a.get id = b.get id) (h2 : a.next = b.next) (h3 : ∀ id, a.gap id = b.gap id) : a = b := by
  cases a; cases b
  simp only [AHeap.mk.injEq] at *
  exact ⟨funext h1, h2, funext h3⟩
theorem set_set {id : Nat} {x y : Option AObj} : (h.set id x).set id y = h.set id y := by
  refine heap_ext (fun j => ?_) rfl fun _ => rfl
  simp only [AHeap.set]; split <;> rfl
end
end Go.Abs

namespace Go.Abs
open Go

theorem set_upto {f g : Nat → List AV} {x : List AV} {m i : Nat} (hx : x = f i) : ((List.range m).map (fun k => if k < i then f k else g k)).set i x = (List.range m).map (fun k => if k < i + 1 then f k else g k) := by
  refine List.ext_getElem (by simp) fun j h1 h2 => ?_
  rw [List.getElem_set]
  simp only [List.getElem_map, List.getElem_range]
  split
  · rename_i e; subst e; rw [if_pos (by omega)]; exact hx
  · by_cases h3 : j < i
    · rw [if_pos h3, if_pos (by omega)]
    · rw [if_neg h3, if_neg (by omega)]
theorem upto_none {f g : Nat → List AV} {m : Nat} {x : List AV} (hg : ∀ k, k < m → g k = x) : List.replicate m x = (List.range m).map (fun k => if k < 0 then f k else g k) := by
  refine List.ext_getElem (by simp) fun j h1 h2 => ?_
  simp at h1
  simp [hg j h1]
theorem upto_all {f g : Nat → List AV} {m i : Nat} (hi : m ≤ i) : (List.range m).map (fun k => if k < i then f k else g k) = (List.range m).map f := by
  refine List.map_congr_left fun k hk => ?_
  simp at hk
  rw [if_pos (by omega)]
theorem next_le_put {h : AHeap} {n nm : Nat} {x : AObj} (hn : n ≤ h.next) : n ≤ (h.put nm x).next := by simp only [AHeap.put]; split <;> omega
theorem next_le_set {h : AHeap} {n nm : Nat} {x : Option AObj} (hn : n ≤ h.next) : n ≤ (h.set nm x).next := hn
/-- The program's drawn orders are of every kind. -/
class MO (P : Program) : Prop where
  mo : P.follows .mixedOrders = true
/-- A test's truth, in both ways. -/
inductive BP : Bool → Prop → Prop → Prop
  | lt (a b : Int) : BP (decide (a < b)) (a < b) (b ≤ a)
  | le (a b : Int) : BP (decide (a ≤ b)) (a ≤ b) (b < a)
  | gt (a b : Int) : BP (decide (a > b)) (b < a) (a ≤ b)
  | ge (a b : Int) : BP (decide (a ≥ b)) (b ≤ a) (a < b)
  | eq (a b : Int) : BP (a == b) (a = b) (a ≠ b)
  | ne (a b : Int) : BP (a != b) (a ≠ b) (a = b)
  | dec (p : Prop) [Decidable p] : BP (decide p) p (¬ p)
  | eqL (a b : List UInt8) : BP (a == b) (a = b) (a ≠ b)
  | neL (a b : List UInt8) : BP (a != b) (a ≠ b) (a = b)
  | not (t : Bool) (p q : Prop) (h : BP t p q) : BP (!t) q p
  | var (t : Bool) : BP t (t = true) (t = false)
theorem BP.both {t : Bool} {p q : Prop} (h : BP t p q) : (t = true → p) ∧ (t = false → q) := by
  induction h with
  | lt a b => simp
  | le a b => simp
  | gt a b => simp
  | ge a b => simp
  | eq a b => simp
  | ne a b => simp
  | dec p => simp
  | eqL a b => simp
  | neL a b => simp
  | not t p q _ ih => cases t <;> simp_all
  | var t => exact ⟨id, id⟩

/-- Instructions that turn the heap. -/
def wsI : Ins → Bool
  | .alloc _ | .box _ _ | .store _ _ _ | .mksl _ _ _ _ _ | .app _ _ _ _ | .cpy _ _ _ => true
  | .raw x => match x with
    | .look _ _ _ _ _ | .mlen _ | .caps _ | .slc3 _ _ _ _ _ | .mkif _ _ | .s2b _ | .asrt _ _ _ _ => false
    | _ => true
  | _ => false
def wsL (l : List CI) (xs : List Nat) : List Nat := (List.range l.length).filter fun i => wsI (l.getD i default).i || xs.contains i
/-- All but W's objects are as they were. -/
def PhiW (n : Nat) (W : List Nat) (h0 h2 : AHeap) : Prop := ∀ id, id < n → id ∉ W → h2.get id = h0.get id

section
variable {P : Program} {N : Nat} {e e' : Env} {h h' : AHeap} {Q : Exit → Env → AHeap → Prop} {l : List CI} {Φ : AHeap → Prop} {ws fs : List Nat} {K : Env → AHeap → Prop} {j : Nat}

theorem get_put_tl {nm g n n' : Nat} (hn : n = n') : (h.put nm (.tail g n)).get nm = some (.tail g n') := by subst hn; exact get_put_same
theorem get_set_tl {nm g n n' : Nat} (hn : n = n') : (h.set nm (some (.tail g n))).get nm = some (.tail g n') := by subst hn; exact get_set_same
theorem PhiW.refl {n : Nat} {W : List Nat} : PhiW n W h h := fun _ _ _ => rfl
theorem PhiW.put {n nm : Nat} {W : List Nat} {h0 : AHeap} {x : AObj} (hn : n ≤ nm) (hp : PhiW n W h0 h) : PhiW n W h0 (h.put nm x) := fun id h1 h2 => by
  rw [get_put_ne (by omega)]; exact hp id h1 h2
theorem PhiW.setW {n i : Nat} {W : List Nat} {h0 : AHeap} {x : Option AObj} (hi : i ∈ W) (hp : PhiW n W h0 h) : PhiW n W h0 (h.set i x) := fun id h1 h2 => by
  have hne : id ≠ i := fun e => h2 (by rw [e]; exact hi)
  rw [get_set_ne hne]; exact hp id h1 h2
theorem PhiW.setN {n i : Nat} {W : List Nat} {h0 : AHeap} {x : Option AObj} (hi : n ≤ i) (hp : PhiW n W h0 h) : PhiW n W h0 (h.set i x) := fun id h1 h2 => by
  rw [get_set_ne (by omega)]; exact hp id h1 h2

/-- The walk's goals, under names that nothing looks through: a code, a region's list. -/
structure WW (P : Program) (N : Nat) (c : CC) (Q : Exit → Env → AHeap → Prop) (e : Env) (h : AHeap) : Prop where
  out : AW P N c Q e h
structure WL (P : Program) (N : Nat) (l : List CI) (Q : Exit → Env → AHeap → Prop) (e : Env) (h : AHeap) : Prop where
  out : AL P N l Q e h
theorem WW.mono {c : CC} {Q' : Exit → Env → AHeap → Prop} (hw : WW P N c Q e h) (hq : ∀ ex e h, Q ex e h → Q' ex e h) : WW P N c Q' e h := ⟨hw.out.mono hq⟩
theorem WW.seq {x y : CC} (hw : WW P N x (thenQ (fun e h => WW P N y Q e h) Q) e h) : WW P N (.seq x y) Q e h :=
  ⟨AW.seq (hw.out.mono fun ex e h hq => by cases ex <;> first | exact hq.out | exact hq)⟩
theorem WW.skip (hq : Q .normal e h) : WW P N .skip Q e h := ⟨AW.skip hq⟩
theorem WW.exit {id : Nat} (hq : Q (.exit id) e h) : WW P N (.exit id) Q e h := ⟨AW.exit hq⟩
theorem WW.ret (hq : Q .ret e h) : WW P N .ret Q e h := ⟨AW.ret hq⟩
theorem WW.block {id : Nat} {x : CC} (hw : WW P N x (blockQ id Q) e h) : WW P N (.block id x) Q e h := ⟨AW.block hw.out⟩
theorem WW.reg {l : List CI} (hw : WL P N l Q e h) : WW P N (.reg l) Q e h := ⟨AW.reg hw.out⟩
theorem WW.condT {c : Opd} {x y : CC} (hc : ev e c = some (.bool true)) (hw : WW P N x Q e h) : WW P N (.cond c x y) Q e h := ⟨AW.condT hc hw.out⟩
theorem WW.condF {c : Opd} {x y : CC} (hc : ev e c = some (.bool false)) (hw : WW P N y Q e h) : WW P N (.cond c x y) Q e h := ⟨AW.condF hc hw.out⟩
theorem WW.ifB {c : Opd} {x y : CC} {t : Bool} {p q : Prop} (hc : ev e c = some (.bool t)) (h1 : p → WW P N x Q e h) (h2 : q → WW P N y Q e h)
    (hb : BP t p q := by first | exact BP.lt _ _ | exact BP.le _ _ | exact BP.gt _ _ | exact BP.ge _ _ | exact BP.eq _ _ | exact BP.ne _ _ | exact BP.eqL _ _ | exact BP.neL _ _ | exact BP.dec _ | exact BP.not _ _ _ (BP.lt _ _) | exact BP.not _ _ _ (BP.eq _ _) | exact BP.not _ _ _ (BP.eqL _ _) | exact BP.not _ _ _ (BP.dec _) | exact BP.not _ _ _ (BP.var _) | exact BP.var _) : WW P N (.cond c x y) Q e h :=
  ⟨AW.condB hc (fun ht => (h1 (hb.both.1 ht)).out) (fun ht => (h2 (hb.both.2 ht)).out)⟩
theorem WW.loopE {σ : Type} {c : CC} (E : σ → Env) (I : σ → AHeap → Prop) (μ : σ → Nat) (s₀ : σ) (he : subE (E s₀) e) (h₀ : I s₀ h)
    (round : ∀ s h, I s h → WW P N c (thenQ (fun e' h' => ∃ s', subE (E s') e' ∧ I s' h' ∧ μ s' < μ s) Q) (E s) h) : WW P N (.loop c) Q e h := ⟨AW.loopE E I μ s₀ he h₀ fun s h hi => (round s h hi).out⟩
theorem WW.cvt {c : CC} (hc : Cvt e h e' h') (hw : WW P N c Q e' h') : WW P N c Q e h := ⟨AW.cvt hc hw.out⟩
theorem WW.heap {c : CC} (s : HSub h' h) (hw : WW P N c Q e h') : WW P N c Q e h := ⟨AW.heap s hw.out⟩
theorem WW.env {c : CC} (hs : subE e' e) (hw : WW P N c Q e' h) : WW P N c Q e h := ⟨AW.env hs hw.out⟩
theorem WW.wf {c : CC} (hw : (∀ id x, h.get id = some x → id < h.next) → WW P N c Q e h) : WW P N c Q e h := ⟨fun code hcc m w a hr he =>
  (hw (fun id x hg => (hr.live id x hg).1)).out code hcc m w a hr he⟩
theorem WL.nil (hq : Q .normal e h) : WL P N [] Q e h := ⟨AL.nil hq⟩
theorem WL.auto {c : CI} (hs : Stp c e h e' h') (k : WL P N l Q e' h') : WL P N (c :: l) Q e h := ⟨AL.auto hs k.out⟩
theorem WL.fx {c : CI} {r : Option AV} (hx : FX P N c e h r h') (k : WL P N l Q (putR c.d r e) h') : WL P N (c :: l) Q e h := ⟨AL.fx hx k.out⟩
theorem WL.fq {c : CI} {R : Option AV → AHeap → Prop} (hx : FQ P N c e h R) (k : ∀ r h', R r h' → WL P N l Q (putR c.d r e) h') : WL P N (c :: l) Q e h := ⟨AL.fq hx fun r h' hR => (k r h' hR).out⟩
theorem WL.cvt (hc : Cvt e h e' h') (hw : WL P N l Q e' h') : WL P N l Q e h := ⟨AL.cvt hc hw.out⟩
theorem WL.spB {dd : Option Nat} {i : Ins} {s : Nat} {b t : Bool} {p q : Prop} (hc : lk s e = some (.bool t)) (h1 : p → WL P N (⟨dd, i, some (s, b)⟩ :: l) Q ((s, some (.bool true)) :: e) h) (h2 : q → WL P N (⟨dd, i, some (s, b)⟩ :: l) Q ((s, some (.bool false)) :: e) h)
    (hb : BP t p q := by first | exact BP.lt _ _ | exact BP.le _ _ | exact BP.gt _ _ | exact BP.ge _ _ | exact BP.eq _ _ | exact BP.ne _ _ | exact BP.eqL _ _ | exact BP.neL _ _ | exact BP.dec _ | exact BP.not _ _ _ (BP.lt _ _) | exact BP.not _ _ _ (BP.eq _ _) | exact BP.not _ _ _ (BP.eqL _ _) | exact BP.not _ _ _ (BP.dec _) | exact BP.not _ _ _ (BP.var _) | exact BP.var _) : WL P N (⟨dd, i, some (s, b)⟩ :: l) Q e h :=
  ⟨AL.split hc (fun ht => (h1 (hb.both.1 ht)).out) (fun ht => (h2 (hb.both.2 ht)).out)⟩
theorem WL.call {dd : Nat} {f : Nat} {xs : List Opd} {g : Option (Nat × Bool)} {vs us : List AV} {r : AV} (hv : evL e xs = some us) (hg : met e g) (hs : SubL us vs) (hac : AE P f vs h r h') (k : WL P N l Q ((dd, some r) :: e) h') : WL P N (⟨some dd, .call f xs, g⟩ :: l) Q e h :=
  ⟨AL.callM hv hg ((hac.sub hs).use k.out)⟩
/-- A call whose contract says what it answers, not just one thing. -/
theorem WL.callA {dd : Nat} {f : Nat} {xs : List Opd} {g : Option (Nat × Bool)} {vs us : List AV} {R : AV → AHeap → Prop} (hv : evL e xs = some us) (hg : met e g) (hs : SubL us vs) (hac : AC P f vs h R) (k : ∀ r h', R r h' → WL P N l Q ((dd, some r) :: e) h') : WL P N (⟨some dd, .call f xs, g⟩ :: l) Q e h :=
  ⟨AL.callM hv hg ((hac.sub hs).mono fun r h' hR => (k r h' hR).out)⟩
theorem AC.wf {f : Nat} {vs : List AV} {R : AV → AHeap → Prop} (hw : (∀ id x, h.get id = some x → id < h.next) → AC P f vs h R) : AC P f vs h R := fun m w cargs hr =>
  hw (fun id x hg => (hr.live id x hg).1) m w cargs hr
theorem AE.wf {f : Nat} {vs : List AV} {r : AV} (hw : (∀ id x, h.get id = some x → id < h.next) → AE P f vs h r h') : AE P f vs h r h' := AC.wf hw
theorem AE.pureW {f : Nat} {cc : CC} {rcs : List RC} {vs : List AV} {r : AV} (hfn : FnIs P f N cc rcs) (hn : vs.length ≤ N) (hw : WW P N cc (PureQ h rcs r) (argE 0 vs) h) : AE P f vs h r h := AE.pureQ hfn hn hw.out
theorem AE.effW {f : Nat} {cc : CC} {rcs : List RC} {vs : List AV} {r : AV} (hfn : FnIs P f N cc rcs) (hn : vs.length ≤ N) (hx : Ext h h') (hw : WW P N cc (EffQ h' rcs r) (argE 0 vs) h) : AE P f vs h r h' := AE.effQ hfn hn hx hw.out
theorem AC.effW {f : Nat} {cc : CC} {rcs : List RC} {vs : List AV} {R : AV → AHeap → Prop} (hfn : FnIs P f N cc rcs) (hn : vs.length ≤ N)
    (hw : WW P N cc (fun ex e h1 => ∃ r h', Ext h h' ∧ EffQ h' rcs r ex e h1 ∧ R r h') (argE 0 vs) h) : AC P f vs h R := AC.eff hfn hn hw.out
/-- The exact end: the heap as the walk leaves it. -/
theorem AC.introW {f : Nat} {cc : CC} {rcs : List RC} {vs : List AV} {R : AV → AHeap → Prop} (hfn : FnIs P f N cc rcs) (hn : vs.length ≤ N)
    (hw : WW P N cc (fun ex e h1 => (ex = .ret ∨ ex = .normal) ∧ ∃ rs, resA h1.get e rcs = some rs ∧ R (fin rs) h1) (argE 0 vs) h) : AC P f vs h R := AC.intro hfn hn hw.out
theorem DW.spB {dd : Option Nat} {i : Ins} {s : Nat} {b t : Bool} {p q : Prop} (hc : lk s e = some (.bool t)) (h1 : p → DW P N Φ ws fs K j (⟨dd, i, some (s, b)⟩ :: l) ((s, some (.bool true)) :: e) h) (h2 : q → DW P N Φ ws fs K j (⟨dd, i, some (s, b)⟩ :: l) ((s, some (.bool false)) :: e) h)
    (hb : BP t p q := by first | exact BP.lt _ _ | exact BP.le _ _ | exact BP.gt _ _ | exact BP.ge _ _ | exact BP.eq _ _ | exact BP.ne _ _ | exact BP.eqL _ _ | exact BP.neL _ _ | exact BP.dec _ | exact BP.not _ _ _ (BP.lt _ _) | exact BP.not _ _ _ (BP.eq _ _) | exact BP.not _ _ _ (BP.eqL _ _) | exact BP.not _ _ _ (BP.dec _) | exact BP.not _ _ _ (BP.var _) | exact BP.var _) : DW P N Φ ws fs K j (⟨dd, i, some (s, b)⟩ :: l) e h :=
  DW.split hc (fun ht => h1 (hb.both.1 ht)) (fun ht => h2 (hb.both.2 ht))

/-- A drawn region in which each operation that turns the heap is ordered against all that look at it (xs: calls that turn it). -/
theorem WW.dreg0 [MO P] {es : List (List Nat)} (xs : List Nat) (hc : chkD l es (wsL l xs) [] = true) (hd : DW P N (fun _ => True) (wsL l xs) [] (fun e h => Q .normal e h) 0 l e h) : WW P N (.dreg l es) Q e h := ⟨AW.dreg MO.mo hc trivial hd⟩
/-- An operation of a drawn region, told by FX. -/
theorem DW.fx0 {c : CI} {r : Option AV} (hx : FX P N c e h r h') (h0 : free0 c.i = false) (hw : ws.contains j = true) (hp : Φ h → Φ h') (hf : fs.contains j = false) (k : DW P N Φ ws fs K (j + 1) l (putR c.d r e) h') : DW P N Φ ws fs K j (c :: l) e h :=
  .fx hx (fun hz => by rw [h0] at hz; cases hz) (fun hz => by rw [hw] at hz; cases hz) hp (fun hz => by rw [hf] at hz; cases hz) k
theorem DW.fxR {c : CI} {r : Option AV} (hx : FX P N c e h r h) (h0 : free0 c.i = false) (hf : fs.contains j = false) (k : DW P N Φ ws fs K (j + 1) l (putR c.d r e) h) : DW P N Φ ws fs K j (c :: l) e h :=
  .fx hx (fun hz => by rw [h0] at hz; cases hz) (fun _ => rfl) id (fun hz => by rw [hf] at hz; cases hz) k
theorem DW.fxF {c : CI} {r : Option AV} (hx : ∀ h2, Φ h2 → FX P N c e h2 r h2) (h0 : free0 c.i = false) (hp : Φ h) (k : DW P N Φ ws fs K (j + 1) l (putR c.d r e) h) : DW P N Φ ws fs K j (c :: l) e h :=
  .fx (hx h hp) (fun hz => by rw [h0] at hz; cases hz) (fun _ => rfl) id (fun _ => hx) k
theorem DW.callS {d : Option Nat} {f : Nat} {xs : List Opd} {g : Option (Nat × Bool)} {vs us : List AV} {r : AV} (hv : evL e xs = some us) (hg : met e g) (hs : SubL us vs) (hf : fs.contains j = false) (hac : AE P f vs h r h) (k : DW P N Φ ws fs K (j + 1) l (putR d (some r) e) h) : DW P N Φ ws fs K j (⟨d, .call f xs, g⟩ :: l) e h :=
  DW.call hv hg hf (hac.sub hs) k
theorem DW.callSF {d : Option Nat} {f : Nat} {xs : List Opd} {g : Option (Nat × Bool)} {vs us : List AV} {r : AV} (hp : Φ h) (hv : evL e xs = some us) (hg : met e g) (hs : SubL us vs) (hac : ∀ h2, Φ h2 → AE P f vs h2 r h2) (k : DW P N Φ ws fs K (j + 1) l (putR d (some r) e) h) : DW P N Φ ws fs K j (⟨d, .call f xs, g⟩ :: l) e h :=
  DW.callF hp hv hg (fun h2 h3 => (hac h2 h3).sub hs) k
theorem DW.callSW {d : Option Nat} {f : Nat} {xs : List Opd} {g : Option (Nat × Bool)} {vs us : List AV} {r : AV} (hv : evL e xs = some us) (hg : met e g) (hs : SubL us vs) (hf : fs.contains j = false) (hw : ws.contains j = true) (hp : Φ h → Φ h') (hac : AE P f vs h r h') (k : DW P N Φ ws fs K (j + 1) l (putR d (some r) e) h') : DW P N Φ ws fs K j (⟨d, .call f xs, g⟩ :: l) e h :=
  DW.callW hv hg hf hw hp (hac.sub hs) k
/-- The next instruction of a region in text order. -/
theorem WL.go {c : CI} (k : WL P N l Q e' h') (hs : Stp c e h e' h' := by exact Stp.auto) : WL P N (c :: l) Q e h := ⟨AL.step hs.ok k.out⟩

/-- A function that only computes returns. -/
theorem PureQ.finD {rcs : List RC} {r : AV} {h1 : AHeap} {rs : List AV} (hf : Fz h h1 (Go.Abs.fin rs) r) (hk : Keeps h h1 := by
    repeat first | with_reducible exact Keeps.refl _ | with_reducible refine Keeps.put ?_ (by omega) _ | with_reducible refine Keeps.set ?_ (by omega) _ | assumption)
    (hr : resA h1.get e rcs = some rs := by
    repeat first | exact resA_nil | (apply resA_t; exact rfl) | (apply resA_c; exact rfl; exact gH; exact (by first | exact getC_at rfl rfl | exact getC_all rfl | exact getC_sub (Nat.le_of_ble_eq_true rfl) (by first | (simp only [putC, AV.cs, encP, encN, encI, encS, encA, List.take_succ_cons, List.take_zero, List.take_nil, List.drop_succ_cons, List.drop_zero, List.drop_nil, List.cons_append, List.nil_append, List.append_nil, List.length_cons, List.length_nil, Nat.zero_add, Nat.add_zero, Nat.reduceAdd]; exact rfl) | exact rfl) | exact getC_sub (by simp) (by first | (simp only [putC, AV.cs, encP, encN, encI, encS, encA, List.take_succ_cons, List.take_zero, List.take_nil, List.drop_succ_cons, List.drop_zero, List.drop_nil, List.cons_append, List.nil_append, List.append_nil, List.length_cons, List.length_nil, Nat.zero_add, Nat.add_zero, Nat.reduceAdd]; exact rfl) | exact rfl)))) : PureQ h rcs r .ret e h1 := PureQ.fin (.inl rfl) hk hr hf
/-- A function that writes returns. -/
theorem EffQ.finD {rcs : List RC} {r : AV} {h1 : AHeap} {rs : List AV} (hk : Keeps h' h1) (hf : Fz h' h1 (Go.Abs.fin rs) r)
    (hr : resA h1.get e rcs = some rs := by
    repeat first | exact resA_nil | (apply resA_t; exact rfl) | (apply resA_c; exact rfl; exact gH; exact (by first | exact getC_at rfl rfl | exact getC_all rfl | exact getC_sub (Nat.le_of_ble_eq_true rfl) (by first | (simp only [putC, AV.cs, encP, encN, encI, encS, encA, List.take_succ_cons, List.take_zero, List.take_nil, List.drop_succ_cons, List.drop_zero, List.drop_nil, List.cons_append, List.nil_append, List.append_nil, List.length_cons, List.length_nil, Nat.zero_add, Nat.add_zero, Nat.reduceAdd]; exact rfl) | exact rfl) | exact getC_sub (by simp) (by first | (simp only [putC, AV.cs, encP, encN, encI, encS, encA, List.take_succ_cons, List.take_zero, List.take_nil, List.drop_succ_cons, List.drop_zero, List.drop_nil, List.cons_append, List.nil_append, List.append_nil, List.length_cons, List.length_nil, Nat.zero_add, Nat.add_zero, Nat.reduceAdd]; exact rfl) | exact rfl)))) : EffQ h' rcs r .ret e h1 := EffQ.fin (.inl rfl) hk hr hf

theorem WW.dregX [MO P] {es : List (List Nat)} (ws fs W : List Nat) {n : Nat} (hn : h.next = n) (hc : chkD l es ws fs = true) (hd : DW P N (PhiW n W h) ws fs (fun e h => Q .normal e h) 0 l e h) : WW P N (.dreg l es) Q e h := ⟨AW.dreg MO.mo hc PhiW.refl hd⟩
/-- An append to nothing, in a drawn region. -/
theorem DW.goI {d : Option Nat} {sz bytes : Nat} {x y : Opd} {g : Option (Nat × Bool)} {v : AV} {c : List (List AV)} (k : DW P N Φ ws fs K (j + 1) l (putR d (some (.imm sz c)) e) h) (hx : ev e x = some .nils := by exact rfl) (hy : ev e y = some v := by exact rfl) (hc : rdS h.get sz v = some c := by exact rfl) (hb : c.length * bytes ≤ 140737488355328 := by first | omega | (simp; done) | (simp; omega)) (hg : met e g := by first | exact True.intro | exact rfl) (hf : fs.contains j = false := by exact rfl) :
    DW P N Φ ws fs K j (⟨d, .app sz bytes x y, g⟩ :: l) e h := DW.fxR (FX.appI hx hy hc hb hg) rfl hf k
theorem DW.goWP {c : CI} {n : Nat} {W : List Nat} {h0 : AHeap} (k : DW P N (PhiW n W h0) ws fs K (j + 1) l e' h') (hs : Stp c e h e' h' := by exact Stp.auto) (hf : fs.contains j = false := by exact rfl) (hw : ws.contains j = true := by exact rfl) (hp : PhiW n W h0 h → PhiW n W h0 h' := by first | exact PhiW.put (by omega) | exact PhiW.setW (by simp) | exact PhiW.setN (by omega)) : DW P N (PhiW n W h0) ws fs K j (c :: l) e h := DW.oneW hw hp hs hf k
/-- Loads wherever they are drawn. -/
theorem DW.goF {c : CI} {n : Nat} {W : List Nat} {h0 : AHeap} (k : DW P N (PhiW n W h0) ws fs K (j + 1) l e' h) (hs : ∀ h2, PhiW n W h0 h2 → Stp c e h2 e' h2 := by
    intro h2 hp2
    first
      | (apply Stp.load1; exact rfl; exact (hp2 _ (by omega) (by first | (simp; done) | (simp; omega))).trans gH; exact (by first | exact getC_at rfl rfl | exact getC_all rfl | exact getC_sub (Nat.le_of_ble_eq_true rfl) (by first | (simp only [putC, AV.cs, encP, encN, encI, encS, encA, List.take_succ_cons, List.take_zero, List.take_nil, List.drop_succ_cons, List.drop_zero, List.drop_nil, List.cons_append, List.nil_append, List.append_nil, List.length_cons, List.length_nil, Nat.zero_add, Nat.add_zero, Nat.reduceAdd]; exact rfl) | exact rfl) | exact getC_sub (by simp) (by first | (simp only [putC, AV.cs, encP, encN, encI, encS, encA, List.take_succ_cons, List.take_zero, List.take_nil, List.drop_succ_cons, List.drop_zero, List.drop_nil, List.cons_append, List.nil_append, List.append_nil, List.length_cons, List.length_nil, Nat.zero_add, Nat.add_zero, Nat.reduceAdd]; exact rfl) | exact rfl)); exact (by first | exact True.intro | exact rfl))
      | (apply Stp.loadp; exact rfl; exact (hp2 _ (by omega) (by first | (simp; done) | (simp; omega))).trans gH; exact (by first | exact map_at (List.getElem?_eq_getElem (by omega)) | exact map_at (List.getElem?_range (by omega)) | exact List.getElem?_eq_getElem (by omega) | exact rfl); exact (by first | exact getC_at rfl rfl | exact getC_all rfl | exact getC_sub (Nat.le_of_ble_eq_true rfl) (by first | (simp only [putC, AV.cs, encP, encN, encI, encS, encA, List.take_succ_cons, List.take_zero, List.take_nil, List.drop_succ_cons, List.drop_zero, List.drop_nil, List.cons_append, List.nil_append, List.append_nil, List.length_cons, List.length_nil, Nat.zero_add, Nat.add_zero, Nat.reduceAdd]; exact rfl) | exact rfl) | exact getC_sub (by simp) (by first | (simp only [putC, AV.cs, encP, encN, encI, encS, encA, List.take_succ_cons, List.take_zero, List.take_nil, List.drop_succ_cons, List.drop_zero, List.drop_nil, List.cons_append, List.nil_append, List.append_nil, List.length_cons, List.length_nil, Nat.zero_add, Nat.add_zero, Nat.reduceAdd]; exact rfl) | exact rfl)); exact (by first | exact True.intro | exact rfl))
      | exact Stp.auto) (hp : PhiW n W h0 h := by repeat first | exact PhiW.refl | refine PhiW.put (by omega) ?_ | refine PhiW.setW (by simp) ?_ | refine PhiW.setN (by omega) ?_) : DW P N (PhiW n W h0) ws fs K j (c :: l) e h := DW.oneF hp hs k
theorem FX.rawN {d : Option Nat} {x : Ex} {g : Option (Nat × Bool)} {r : Option AV} (hx : XOK P N x e h r .none) (hg : met e g) : FX P N ⟨d, .raw x, g⟩ e h r h := FX.raw hx hg
theorem FX.mkmap {d : Option Nat} {g : Option (Nat × Bool)} {nx : Nat} (hn : h.next = nx) (hg : met e g) : FX P N ⟨d, .raw .mkmap, g⟩ e h (some (.map nx)) (h.put nx (.map [])) := by subst hn; exact FX.raw XOK.mkmap hg
theorem FX.appz {d : Option Nat} {g : Option (Nat × Bool)} {sz bytes n nx : Nat} {zs : List AV} {x y : Opd} {k : IntKind} {a : Int} (hx : ev e x = some .nils) (hy : ev e y = some (.int k a)) (ha : a = n) (h0 : 0 < n) (hb : n * bytes ≤ 140737488355328) (hn : h.next = nx) (hg : met e g) :
    FX P N ⟨d, .raw (.appz sz bytes zs x y), g⟩ e h (some (.ref nx 0 n)) (h.put nx (.mem sz (List.replicate n zs))) := by subst hn; exact FX.raw (XOK.appz hx hy ha h0 hb) hg
theorem FX.strish {d : Option Nat} {g : Option (Nat × Bool)} {x : Opd} {id n : Nat} {c : List (List AV)} (hx : ev e x = some (.ref id 0 n)) (hm : h.get id = some (.mem 1 c)) (hl : c.length = n) (h0 : 0 < n) (hg : met e g) : FX P N ⟨d, .raw (.strish x), g⟩ e h (some (.imm 1 c)) (h.set id none) := FX.raw (XOK.strish hx hm hl h0) hg
theorem FX.mput {d : Option Nat} {g : Option (Nat × Bool)} {mk : MK} {x y z : Opd} {id : Nat} {a v : AV} {es : List (AV × AV)} {r : Option (Nat × AV)} (hx : ev e x = some (.map id)) (hy : ev e y = some a) (hz : ev e z = some v) (hm : h.get id = some (.map es)) (hk : keyOK mk a) (hf : findA a es 0 = some r) (hg : met e g) :
    FX P N ⟨d, .raw (.mput mk x y z), g⟩ e h none (h.set id (some (.map (putM es a v r)))) := FX.raw (XOK.mput hx hy hz hm hk hf) hg
theorem FX.look {d : Option Nat} {g : Option (Nat × Bool)} {mk : MK} {z : AV} {ok : Bool} {x y : Opd} {id : Nat} {a v : AV} {es : List (AV × AV)} {r : Option (Nat × AV)} (hx : ev e x = some (.map id)) (hy : ev e y = some a) (hm : h.get id = some (.map es)) (hk : keyOK mk a) (hf : findA a es 0 = some r) (hv : lookR z ok r = v) (hg : met e g) :
    FX P N ⟨d, .raw (.look mk z ok x y), g⟩ e h (some v) h := by subst hv; exact FX.raw (XOK.look hx hy hm hk hf) hg
theorem FX.bslN {d : Option Nat} {sz n nx : Nat} {xs : List Opd} {g : Option (Nat × Bool)} {vs : List AV} {c : List (List AV)} (hv : evL e xs = some vs) (hc : cellsL sz vs = some c) (hl : c.length = n) (hn : h.next = nx) (hg : met e g) : FX P N ⟨d, .bsl sz xs, g⟩ e h (some (.ref nx 0 n)) (h.put nx (.mem sz c)) := by subst hn; exact FX.bslM hv hc hl hg
theorem WL.fx1 {d : Nat} {i : Ins} {g : Option (Nat × Bool)} {v : AV} (hx : FX P N ⟨some d, i, g⟩ e h (some v) h') (k : WL P N l Q ((d, some v) :: e) h') : WL P N (⟨some d, i, g⟩ :: l) Q e h := WL.fx hx k
theorem WL.fx0 {i : Ins} {g : Option (Nat × Bool)} {r : Option AV} (hx : FX P N ⟨none, i, g⟩ e h r h') (k : WL P N l Q e h') : WL P N (⟨none, i, g⟩ :: l) Q e h := WL.fx hx k
theorem WL.fq1 {d : Nat} {i : Ins} {g : Option (Nat × Bool)} {R : Option AV → AHeap → Prop} (hx : FQ P N ⟨some d, i, g⟩ e h R) (k : ∀ r h', R r h' → WL P N l Q ((d, r) :: e) h') : WL P N (⟨some d, i, g⟩ :: l) Q e h := WL.fq hx k
/-- An operation beyond the plain ones, if it needs no thought. -/
theorem WL.gox {d : Nat} {i : Ins} {g : Option (Nat × Bool)} {v : AV} (k : WL P N l Q ((d, some v) :: e) h') (hx : FX P N ⟨some d, i, g⟩ e h (some v) h' := by
    first
      | (apply FX.mkmap; exact gN; exact (by first | exact True.intro | exact rfl))
      | (apply FX.rawN; apply XOK.mlen; exact rfl; exact gH; exact (by first | exact True.intro | exact rfl))
      | (apply FX.rawN; apply XOK.caps0; exact rfl; exact (by first | exact True.intro | exact rfl))
      | (apply FX.rawN; apply XOK.slc00; exact rfl; exact ⟨_, rfl⟩; exact rfl; exact rfl; exact (by first | exact True.intro | exact rfl))
      | (apply FX.rawN; apply XOK.slcNN; exact rfl; exact rfl; exact rfl; exact (by first | with_reducible exact ix2 _ | with_reducible exact ix21 _ | rfl | exact (Int.toNat_of_nonneg (by omega)).symm); exact (by first | with_reducible exact ix2 _ | with_reducible exact ix21 _ | rfl | exact (Int.toNat_of_nonneg (by omega)).symm); exact (by first | omega | (simp; done) | (simp; omega)); exact ⟨_, gH⟩; exact (by first | exact True.intro | exact rfl))
      | (apply FX.appz; exact rfl; exact rfl; exact (by first | with_reducible exact ix2 _ | with_reducible exact ix21 _ | rfl | exact (Int.toNat_of_nonneg (by omega)).symm); exact (by first | omega | (simp; done) | (simp; omega)); exact (by first | omega | (simp; done) | (simp; omega)); exact gN; exact (by first | exact True.intro | exact rfl))) : WL P N (⟨some d, i, g⟩ :: l) Q e h := WL.fx1 hx k

/-- The same in a drawn region. -/
theorem DW.gox {d : Nat} {i : Ins} {g : Option (Nat × Bool)} {v : AV} (k : DW P N Φ ws fs K (j + 1) l ((d, some v) :: e) h) (hx : FX P N ⟨some d, i, g⟩ e h (some v) h := by
    first
      | (apply FX.rawN; apply XOK.mlen; exact rfl; exact gH; exact (by first | exact True.intro | exact rfl))
      | (apply FX.rawN; apply XOK.caps0; exact rfl; exact (by first | exact True.intro | exact rfl))) (h0 : free0 i = false := by exact rfl) (hf : fs.contains j = false := by exact rfl) : DW P N Φ ws fs K j (⟨some d, i, g⟩ :: l) e h := DW.fxR hx h0 hf k
structure WS (P : Program) (N : Nat) (S : List Nat) (l : List CI) (Q : Exit → Env → AHeap → Prop) (e : Env) (h : AHeap) : Prop where
  out : ∀ (ops : Array Oper) (idx : List Nat), (∀ i ∈ idx, i < ops.size) → idx.map (fun i => compI P N ops (ops.getD i default)) = l → ∀ m w a, HR m h w → ER N m h w e a → (∀ s ∈ S, a.tmps.getD s undef = undef) → wpOps P ops (PA N Q m h w) idx a w
section
variable {S : List Nat} {m : Inj} {w : World}
theorem WS.off (k : WL P N l Q e h) : WS P N S l Q e h := ⟨fun ops idx hlt hl m w a hr he _ => k.out ops idx hlt hl m w a hr he⟩
theorem put_undef {a : Go.Act} {d s : Nat} (hs : s = d ∨ a.tmps.getD s undef = undef) : (a.put (some d) undef).tmps.getD s undef = undef := by
  simp only [Act.put, Array.getD_eq_getD_getElem?] at hs ⊢
  rw [Array.getElem?_setIfInBounds]
  split
  · split
    · rfl
    · rfl
  · rename_i hne
    rcases hs with rfl | hs
    · exact absurd rfl hne
    · exact hs
theorem WS.skip {d s : Nat} {i : Ins} {b : Bool} (hsk : S.contains s = true ∨ ∃ t, lk s e = some (.bool t) ∧ (!b) = t) (k : WS P N (d :: S) l Q ((d, none) :: e) h) : WS P N S (⟨some d, i, some (s, b)⟩ :: l) Q e h := ⟨fun ops idx hlt hl m w a hr he hS => by
  cases idx with
  | nil => simp at hl
  | cons j idx =>
    simp only [List.map_cons, List.cons.injEq] at hl
    obtain ⟨hc, hl⟩ := hl
    have hilt := hlt j (by simp)
    have ho : ops[j]? = some ops[j] := Array.getElem?_eq_getElem hilt
    have hget : ops.getD j default = ops[j] := by simp [hilt]
    rw [hget] at hc
    have hlt' : ∀ j ∈ idx, j < ops.size := fun j hj => hlt j (by simp [hj])
    rcases compI_ok hc with ⟨hb1, hb2⟩ | ⟨hd, hdst, hcomp, hg⟩
    · cases hb2
    · have hw : Region.wanted ops[j] (yielded ops a.tmps) = false := by
        rcases hsk with hsk | ⟨t, h1, h2⟩
        · cases hgo : ops[j].guard with
          | none => simp only [hgo] at hg; cases hg
          | some jb =>
            obtain ⟨j0, b0⟩ := jb
            simp only [hgo] at hg
            obtain ⟨s0, hs0, hg0⟩ := hg
            cases hg0
            have hu := hS s (by simpa using hsk)
            have hy : yielded ops a.tmps j0 = none := by
              unfold yielded
              rw [hs0]
              simp only [Option.bind_some]
              cases hx : a.tmps[s]? with
              | none => rfl
              | some x => simp [hx] at hu; subst hu; rfl
            simp only [Region.wanted, hgo, hy]
            cases b <;> rfl
        · obtain ⟨w1, w2⟩ := wanted_of he hg
          rw [w2 s b t rfl h1]; subst h2; cases b <;> rfl
      have hd' : (some d : Option Nat) = ops[j].dst := hd
      simp only [wpOps, ho]
      rw [hw]
      simp only [Bool.false_eq_true, if_false]
      rw [← hd']
      refine k.out ops idx hlt' hl m w _ hr (he.skip d undef) fun s' hs' => ?_
      refine put_undef ?_
      rcases List.mem_cons.1 hs' with rfl | hs'
      · exact .inl rfl
      · exact .inr (hS s' hs')⟩
theorem WS.dead {d s : Nat} {i : Ins} {b : Bool} (hs : S.contains s = true) (k : WS P N (d :: S) l Q ((d, none) :: e) h) : WS P N S (⟨some d, i, some (s, b)⟩ :: l) Q e h := .skip (.inl hs) k
theorem WS.unmet {d s : Nat} {i : Ins} {b t : Bool} (h1 : lk s e = some (.bool t)) (h2 : (!b) = t) (k : WS P N (d :: S) l Q ((d, none) :: e) h) : WS P N S (⟨some d, i, some (s, b)⟩ :: l) Q e h := .skip (.inr ⟨t, h1, h2⟩) k
theorem WL.unS {d s : Nat} {i : Ins} {b t : Bool} (h1 : lk s e = some (.bool t)) (h2 : (!b) = t) (k : WS P N [d] l Q ((d, none) :: e) h) : WL P N (⟨some d, i, some (s, b)⟩ :: l) Q e h :=
  ⟨fun ops idx hlt hl m w a hr he => (WS.unmet (S := []) h1 h2 k).out ops idx hlt hl m w a hr he (by simp)⟩
end
theorem blkN {id : Nat} (hq : Q .normal e h) : blockQ id Q .normal e h := hq
/-- A goal that is left, in a wrapping that no search looks into. -/
structure BoxP (B : Prop) : Prop where
  out : B
/-- The walk as far as it needs no thought. -/
theorem go {A B : Prop} (k : B) (hs : BoxP B → A := by
    intro k
    repeat first | refine WL.unS rfl rfl ?_ | refine WS.dead rfl ?_ | refine WS.unmet rfl rfl ?_ | refine WS.off ?_ | refine WL.go ?_ | refine WW.seq ?_ | refine WW.reg ?_ | refine WL.nil ?_ | refine DW.go ?_ | refine DW.endL ?_ | refine WW.skip ?_ | refine WW.block ?_ | refine WW.exit ?_ | refine WW.condT rfl ?_ | refine WW.condF rfl ?_ | refine WL.gox ?_ | refine DW.gox ?_ | refine DW.goW ?_ (fun _ => True.intro) | refine DW.goWP ?_ | refine DW.goI ?_ | refine DW.goF ?_ | refine WW.dreg0 [] (by decide +kernel) ?_ | refine thenN ?_ | refine blkN ?_
    exact BoxP.out k) : A := hs ⟨k⟩
end
end Go.Abs

namespace Go.Abs
open Go

def splitG (g : Nat × Bool) : List CI → List CI × List CI
  | [] => ([], [])
  | c :: l => match c.g with
    | none => ([], c :: l)
    | some (s, b) => match Nat.beq s g.1, b == g.2 with
      | true, true => (c :: (splitG g l).1, (splitG g l).2)
      | _, _ => ([], c :: l)
theorem splitG_app (g : Nat × Bool) : ∀ l, l = (splitG g l).1 ++ (splitG g l).2
  | [] => rfl
  | c :: l => by
    simp only [splitG]
    split
    · rfl
    · split
      · simpa using splitG_app g l
      · rfl
theorem splitG_g (g : Nat × Bool) : ∀ l, ∀ c ∈ (splitG g l).1, c.g = some g
  | [], c, hc => by simp [splitG] at hc
  | x :: l, c, hc => by
    simp only [splitG] at hc
    split at hc
    · simp at hc
    · rename_i s b hxg
      split at hc
      · rename_i h1 h2
        rcases List.mem_cons.1 hc with rfl | hc
        · rw [hxg]
          have e1 := Nat.eq_of_beq_eq_true h1
          have e2 : b = g.2 := by simpa using h2
          rw [e1, e2]
        · exact splitG_g g l c hc
      · simp at hc
def kill : List CI → Env → Env
  | [], e => e
  | c :: l, e => kill l (putR c.d none e)

section
variable {P : Program} {N : Nat} {e e' : Env} {h h' : AHeap} {Q : Exit → Env → AHeap → Prop} {l l1 rest : List CI} {K : Env → Prop}

/-- A list whose operations leave the heap as it is. -/
inductive GW (P : Program) (N : Nat) (K : Env → Prop) : List CI → Env → AHeap → Prop
  | nil {e : Env} {h : AHeap} (hk : K e) : GW P N K [] e h
  | fx {c : CI} {l : List CI} {e : Env} {h : AHeap} {r : Option AV} (hx : FX P N c e h r h) (k : GW P N K l (putR c.d r e) h) : GW P N K (c :: l) e h
theorem GW.goS {c : CI} (hs : Stp c e h e' h) (k : GW P N K l e' h) : GW P N K (c :: l) e h := by
  obtain ⟨r, he, hx, _⟩ := FX.of_stp (P := P) (N := N) hs
  subst he
  exact .fx hx k
theorem GW.call {d : Option Nat} {f : Nat} {xs : List Opd} {g : Option (Nat × Bool)} {vs us : List AV} {r : AV} (hv : evL e xs = some us) (hg : met e g) (hs : SubL us vs) (hac : AE P f vs h r h) (k : GW P N K l (putR d (some r) e) h) : GW P N K (⟨d, .call f xs, g⟩ :: l) e h :=
  .fx (FX.call hg hv (hac.sub hs)) k

theorem subE_put {e1 e2 : Env} (hs : subE e1 e2) (d : Option Nat) (r : Option AV) : subE (putR d none e1) (putR d r e2) := by
  intro i v hv
  cases d with
  | none => exact hs i v hv
  | some d =>
    simp only [putR, lk_cons] at hv ⊢
    split at hv
    · cases hv
    · rename_i hne; rw [if_neg hne]; exact hs i v hv
theorem AL.gw (hw : GW P N K l1 e h) : ∀ e0, subE e0 e → (∀ e', K e' → subE (kill l1 e0) e' → AL P N rest Q e' h) → AL P N (l1 ++ rest) Q e h := by
  induction hw with
  | nil hk => exact fun e0 hs k => k _ hk hs
  | fx hx _ ih => exact fun e0 hs k => AL.fx hx (ih _ (subE_put hs _ _) k)
theorem lk_kill {s : Nat} {v : AV} : ∀ (l : List CI) {e : Env}, l.all (fun c => c.d != some s) = true → lk s e = some v → lk s (kill l e) = some v
  | [], e, _, hv => hv
  | c :: l, e, ha, hv => by
    simp only [List.all_cons, Bool.and_eq_true] at ha
    refine lk_kill l ha.2 ?_
    cases hd : c.d with
    | none => exact hv
    | some d =>
      have : d ≠ s := by have := ha.1; rw [hd] at this; simpa using this
      simp only [putR, lk_cons]
      rw [if_neg fun e => this e.symm]; exact hv
theorem AL.unmet {s : Nat} {b t : Bool} (hne : t ≠ b) : ∀ (l1 : List CI) {e : Env}, (∀ c ∈ l1, c.g = some (s, b)) → l1.all (fun c => c.d != some s) = true → lk s e = some (.bool t) → AL P N rest Q (kill l1 e) h → AL P N (l1 ++ rest) Q e h
  | [], e, _, _, _, k => k
  | c :: l, e, hg, ha, hs, k => by
    have ha' := ha
    simp only [List.all_cons, Bool.and_eq_true] at ha'
    refine AL.fx (FX.skip (hg c (by simp)) hs hne) (AL.unmet hne l (fun c hc => hg c (by simp [hc])) ha'.2 ?_ k)
    exact lk_kill [c] (by simpa using ha'.1) hs
theorem BP.of {t : Bool} {p q : Prop} (hb : BP t p q := by first | exact BP.lt _ _ | exact BP.le _ _ | exact BP.gt _ _ | exact BP.ge _ _ | exact BP.eq _ _ | exact BP.ne _ _ | exact BP.eqL _ _ | exact BP.neL _ _ | exact BP.dec _ | exact BP.not _ _ _ (BP.lt _ _) | exact BP.not _ _ _ (BP.eq _ _) | exact BP.not _ _ _ (BP.eqL _ _) | exact BP.not _ _ _ (BP.dec _) | exact BP.not _ _ _ (BP.var _) | exact BP.var _) : BP t p q := hb
theorem WL.andB {dd : Option Nat} {i : Ins} {s d r : Nat} {t u : Bool} {p q : Prop} (hs : lk s e = some (.bool t)) (hsp : splitG (s, true) (⟨dd, i, some (s, true)⟩ :: l) = (l1, ⟨some d, .pick (.t s) (.t r) (.c (.bool false)), none⟩ :: rest)) (ha : l1.all (fun c => c.d != some s) = true) (hb : BP t p q)
    (h1 : p → GW P N (fun e' => lk r e' = some (.bool u)) l1 ((s, some (.bool true)) :: e) h) (k : WL P N rest Q ((d, some (.bool (t && u))) :: kill l1 e) h) : WL P N (⟨dd, i, some (s, true)⟩ :: l) Q e h := by
  have hl := splitG_app (s, true) (⟨dd, i, some (s, true)⟩ :: l)
  have hg := splitG_g (s, true) (⟨dd, i, some (s, true)⟩ :: l)
  rw [hsp] at hl hg
  rw [hl]
  cases t with
  | false => exact ⟨AL.unmet (by simp) l1 hg ha hs (AL.auto (Stp.pickF (lk_kill l1 ha hs) rfl trivial) k.out)⟩
  | true =>
    have h0 : subE ((s, some (.bool true)) :: e) e := fun i v hv => by
      simp only [lk_cons] at hv
      split at hv
      · rename_i e1; subst e1; cases hv; exact hs
      · exact hv
    have h2 : subE e ((s, some (.bool true)) :: e) := fun i v hv => by
      simp only [lk_cons]
      split
      · rename_i e1; subst e1; rw [hs] at hv; exact hv
      · exact hv
    refine ⟨AL.env h0 (AL.gw (h1 (hb.both.1 rfl)) _ h2 fun e' hr hk => AL.auto (Stp.pickT (hk s _ (lk_kill l1 ha hs)) hr trivial) (AL.env ?_ k.out))⟩
    intro i v hv
    simp only [lk_cons] at hv ⊢
    split at hv
    · rename_i he; rw [if_pos he]; simpa using hv
    · rename_i hne; rw [if_neg hne]; exact hk i v hv
theorem WL.orB {dd : Option Nat} {i : Ins} {s d r : Nat} {t u : Bool} {p q : Prop} (hs : lk s e = some (.bool t)) (hsp : splitG (s, false) (⟨dd, i, some (s, false)⟩ :: l) = (l1, ⟨some d, .pick (.t s) (.c (.bool true)) (.t r), none⟩ :: rest)) (ha : l1.all (fun c => c.d != some s) = true) (hb : BP t p q)
    (h1 : q → GW P N (fun e' => lk r e' = some (.bool u)) l1 ((s, some (.bool false)) :: e) h) (k : WL P N rest Q ((d, some (.bool (t || u))) :: kill l1 e) h) : WL P N (⟨dd, i, some (s, false)⟩ :: l) Q e h := by
  have hl := splitG_app (s, false) (⟨dd, i, some (s, false)⟩ :: l)
  have hg := splitG_g (s, false) (⟨dd, i, some (s, false)⟩ :: l)
  rw [hsp] at hl hg
  rw [hl]
  cases t with
  | true => exact ⟨AL.unmet (by simp) l1 hg ha hs (AL.auto (Stp.pickT (lk_kill l1 ha hs) rfl trivial) k.out)⟩
  | false =>
    have h0 : subE ((s, some (.bool false)) :: e) e := fun i v hv => by
      simp only [lk_cons] at hv
      split at hv
      · rename_i e1; subst e1; cases hv; exact hs
      · exact hv
    have h2 : subE e ((s, some (.bool false)) :: e) := fun i v hv => by
      simp only [lk_cons]
      split
      · rename_i e1; subst e1; rw [hs] at hv; exact hv
      · exact hv
    refine ⟨AL.env h0 (AL.gw (h1 (hb.both.2 rfl)) _ h2 fun e' hr hk => AL.auto (Stp.pickF (hk s _ (lk_kill l1 ha hs)) hr trivial) (AL.env ?_ k.out))⟩
    intro i v hv
    simp only [lk_cons] at hv ⊢
    split at hv
    · rename_i he; rw [if_pos he]; simpa using hv
    · rename_i hne; rw [if_neg hne]; exact hk i v hv
def CvtV (u : AV) (h : AHeap) (v : AV) (h' : AHeap) : Prop := ∀ (m : Inj) (w : World) (c : Value), HR m h w → VR m h w u c → ∃ m', HR m' h' w ∧ VR m' h' w v c ∧ Step m h w m' h' w
theorem CvtV.refl (u : AV) : CvtV u h u h := fun m w c hr hv => ⟨m, hr, hv, Step.refl _ _ _⟩
theorem CvtV.adopt {sz nx : Nat} (hn : h.next = nx) : CvtV .nils h (.app nx 0 sz []) (h.put nx (.tail 0 0)) := fun m w cv hr hv => by
  subst hn
  have hf := next_fresh hr
  refine ⟨_, hr.putv hf, ?_, step_putv hr hf⟩
  cases hv with
  | nils0 => exact .app0 _ _ _ put_used_nm (tok_new (by simp [upd]))
  | nils1 a => exact .app1 _ _ _ _ put_used_nm (tok_new (by simp [upd]))
end
end Go.Abs

namespace Go.Abs
open Go

section
variable {P : Program} {N : Nat} {e e' : Env} {h h' : AHeap} {l : List CI} {Q : Exit → Env → AHeap → Prop} {m : Inj} {w : World}

/-- Keys that are rows of cells: which one is it? -/
def findB (ks : List CK) (xs : List AV) : List (AV × AV) → Nat → Option (Option (Nat × AV))
  | [], _ => if xs.length = ks.length then some none else none
  | (k', v) :: es, i => match k' with
    | .agg ys => match eqCells ks xs ys with
      | some true => some (some (i, v))
      | some false => findB ks xs es (i + 1)
      | none => none
    | _ => none
theorem findB_len {ks : List CK} {xs : List AV} {r : Option (Nat × AV)} {cs : List MapEntry} {xcs : Array Value} : ∀ {es : List (AV × AV)} {i : Nat}, findB ks xs es i = some r → EntR m h w es cs → CR m h w xs xcs → xs.length = ks.length
  | [], i, hf, _, _ => by
    simp only [findB] at hf
    split at hf
    · assumption
    · cases hf
  | (k', v) :: es, i, hf, _, _ => by
    simp only [findB] at hf
    split at hf
    · split at hf
      · rename_i hq; exact (eqCells_len hq).1
      · rename_i hq; exact (eqCells_len hq).1
      · cases hf
    · cases hf
theorem mkind_a {t : TypeId} {ks : List CK} (hk : mkind P t = some (.a ks)) : flatK P 5 t = some ks ∧ ∃ d, P.underlying t = some d ∧ aggD d = true := by
  unfold mkind at hk
  split at hk
  · cases hk
  · cases hk
  · rename_i hu
    split at hk
    · rw [Option.map_eq_some_iff] at hk
      obtain ⟨a, h1, h2⟩ := hk
      cases h2
      exact ⟨h1, _, hu, rfl⟩
    · cases hk
  · rename_i hu
    split at hk
    · rw [Option.map_eq_some_iff] at hk
      obtain ⟨a, h1, h2⟩ := hk
      cases h2
      exact ⟨h1, _, hu, rfl⟩
    · cases hk
  · cases hk
/-- Cells that are the same are the same values. -/
theorem eqCells_same : ∀ {ks : List CK} {us vs : List AV}, eqCells ks us vs = some true → us = vs ∧ ∀ v ∈ us, (∃ k n, v = .int k n) ∨ (∃ b, v = .bool b) ∨ ∃ s, v = .str s
  | [], us, vs, hq => by
    cases us <;> cases vs <;> simp [eqCells] at hq
    exact ⟨rfl, by simp⟩
  | k :: ks, us, vs, hq => by
    cases us with
    | nil => cases k <;> simp [eqCells] at hq
    | cons u us =>
      cases vs with
      | nil => cases k <;> cases u <;> simp [eqCells] at hq
      | cons v vs =>
        have step : ∀ (t : Bool), (eqCells ks us vs).map (fun r => t && r) = some true → t = true ∧ us = vs ∧ ∀ v ∈ us, (∃ k n, v = .int k n) ∨ (∃ b, v = .bool b) ∨ ∃ s, v = .str s := by
          intro t ht
          cases hr : eqCells ks us vs with
          | none => simp [hr] at ht
          | some r' =>
            simp [hr] at ht
            obtain ⟨rfl, rfl⟩ := ht
            exact ⟨rfl, eqCells_same hr⟩
        cases k <;> cases u <;> cases v <;> simp only [eqCells] at hq <;> try (cases hq; done)
        · split at hq
          · rename_i hk
            obtain ⟨h1, h2, h3⟩ := step _ hq
            have h1' := by simpa using h1
            subst hk; subst h1'; subst h2
            exact ⟨rfl, fun v hv => by rcases List.mem_cons.1 hv with rfl | hv; exact .inl ⟨_, _, rfl⟩; exact h3 v hv⟩
          · cases hq
        · obtain ⟨h1, h2, h3⟩ := step _ hq
          have h1' := by simpa using h1
          subst h1'; subst h2
          exact ⟨rfl, fun v hv => by rcases List.mem_cons.1 hv with rfl | hv; exact .inr (.inl ⟨_, rfl⟩); exact h3 v hv⟩
        · obtain ⟨h1, h2, h3⟩ := step _ hq
          have h1' := by simpa using h1
          subst h1'; subst h2
          exact ⟨rfl, fun v hv => by rcases List.mem_cons.1 hv with rfl | hv; exact .inr (.inr ⟨_, rfl⟩); exact h3 v hv⟩
/-- Real rows of cells that read as one row of plain cells are one. -/
theorem cr_same {us : List AV} {xs ys : Array Value} (hx : CR m h w us xs) (hy : CR m h w us ys) (hp : ∀ v ∈ us, (∃ k n, v = .int k n) ∨ (∃ b, v = .bool b) ∨ ∃ s, v = .str s) : xs = ys ∧ ∀ n, Instr.sameBits (n + 2) (.agg xs) (.agg xs) = true := by
  have one : ∀ i (hi : i < us.length) (x y : Value), VR m h w us[i] x → VR m h w us[i] y → x = y ∧ ∀ n, Instr.sameBits (n + 1) x x = true := by
    intro i hi x y h1 h2
    rcases hp _ (List.getElem_mem hi) with ⟨k, n, hv⟩ | ⟨b, hv⟩ | ⟨s, hv⟩
    · rw [hv] at h1 h2; rw [vr_int h1, vr_int h2]; exact ⟨rfl, fun n => by simp [Instr.sameBits]⟩
    · rw [hv] at h1 h2; rw [vr_bool h1, vr_bool h2]; exact ⟨rfl, fun n => by simp [Instr.sameBits]⟩
    · rw [hv] at h1 h2
      cases h1; cases h2
      exact ⟨rfl, fun n => by simp [Instr.sameBits, (MapKept.bytes_beq _ _).2 rfl]⟩
  have get : ∀ (zs : Array Value) (hz : CR m h w us zs), ∀ i (hi : i < zs.size), VR m h w (us[i]'(by rw [hz.1]; exact hi)) zs[i] := fun zs hz i hi => by
    have := hz.2 i _ (List.getElem?_eq_getElem (by have := hz.1; omega))
    simpa [Array.getD_eq_getD_getElem?, hi] using this
  refine ⟨Array.ext (by rw [← hx.1, ← hy.1]) fun i h1 h2 => (one i (by have := hx.1; omega) _ _ (get xs hx i h1) (get ys hy i h2)).1, fun n => ?_⟩
  simp only [Instr.sameBits, beq_self_eq_true, Bool.true_and, List.all_eq_true]
  rintro ⟨a, b⟩ hab
  obtain ⟨i, hi, he⟩ := List.mem_iff_getElem.1 hab
  simp at hi he
  obtain ⟨rfl, rfl⟩ := he
  exact (one i (by have := hx.1; omega) _ _ (get xs hx i hi) (get xs hx i hi)).2 n

def CkT (P : Program) (m : Inj) (h : AHeap) (w : World) (d : Nat) (t : TypeId) (ks : List CK) : Prop :=
  ∀ D em, (∀ us xs, aggD ((P.underlying t).getD .invalid) = true → CR m h w us xs → us.length = ks.length → (Instr.checkKey em (D + d) t (.agg xs)).run P w = .ok () w) ∧
    (aggD ((P.underlying t).getD .invalid) = false → ∀ x, (Instr.checkKey em (D + d) t x).run P w = .ok () w)
theorem CkT.part {d : Nat} {t : TypeId} {ks : List CK} (he : CkT P m h w d t ks) {sz : Nat} {ag : Bool} (ht : tyI P t = some (sz, ag)) (hag : ag = true ∨ sz = 1) (hk : ks.length = sz) (D : Nat) (em : Bool) {us : List AV} {xs : Array Value} {off : Nat} (hx : CR m h w us xs) (hu : off + sz ≤ us.length) :
    ∃ pa, (part t xs off).run P w = .ok pa w ∧ (Instr.checkKey em (D + d) t pa).run P w = .ok () w := by
  obtain ⟨hsz, hagg⟩ := tyI_some ht
  have hat := tyI_agg ht
  cases ag with
  | true => exact ⟨_, by simp [Go.part, hagg, hsz], (he D em).1 _ _ hat (hx.sub off sz hu) (by simp; omega)⟩
  | false =>
    have h10 : sz = 1 := by simpa using hag
    subst h10
    have hxl : off < xs.size := by rw [← hx.1]; omega
    exact ⟨xs[off], by simp [Go.part, hagg, hxl], (he D em).2 hat _⟩
theorem ckK_ok : ∀ (d : Nat) {t : TypeId} {ks : List CK}, flatK P d t = some ks → CkT P m h w d t ks
  | 0, t, ks, hk => by simp [flatK] at hk
  | d + 1, t, ks, hk => by
    intro D em
    have ih : ∀ t ks, flatK P d t = some ks → CkT P m h w d t ks := fun t ks hk => ckK_ok d hk
    rw [show D + (d + 1) = (D + d) + 1 by omega]
    unfold flatK at hk
    split at hk
    · rename_i k hu; exact ⟨fun _ _ ha => by simp [hu, aggD] at ha, fun _ x => by cases x <;> simp [Instr.checkKey, run_underlying hu]⟩
    · rename_i hu; exact ⟨fun _ _ ha => by simp [hu, aggD] at ha, fun _ x => by cases x <;> simp [Instr.checkKey, run_underlying hu]⟩
    · rename_i hu; exact ⟨fun _ _ ha => by simp [hu, aggD] at ha, fun _ x => by cases x <;> simp [Instr.checkKey, run_underlying hu]⟩
    · rename_i fs hu
      split at hk
      · refine ⟨fun us xs _ hx hl => ?_, fun ha => by simp [hu, aggD] at ha⟩
        have key : ∀ (fs : List Field) (o : Nat) {ks : List CK}, flatF (flatK P d) P o fs = some ks → o + ks.length = us.length →
            (forIn fs PUnit.unit fun (f : Field) _ => do
              if f.name ≠ "_" then do
                Instr.checkKey em (D + d) f.type (← part f.type xs f.offset)
                pure (ForInStep.yield PUnit.unit)
              else pure (ForInStep.yield PUnit.unit) : Sem PUnit).run P w = .ok PUnit.unit w := by
          intro fs
          induction fs with
          | nil => intro o ks _ _; simp
          | cons f fs ihf =>
            intro o ks hf hlen
            simp only [flatF] at hf
            split at hf
            · rename_i k1 sz ag g1 g2
              split at hf
              · rename_i hcond
                obtain ⟨hname, rfl, hk1, hag⟩ := hcond
                cases hr : flatF (flatK P d) P (f.offset + sz) fs with
                | none => simp [hr] at hf
                | some k2 =>
                  simp [hr] at hf
                  subst hf
                  simp at hlen
                  obtain ⟨pa, h1, h2⟩ := (ih _ _ g1).part g2 hag hk1 D em hx (off := f.offset) (by omega)
                  have := ihf (f.offset + sz) hr (by omega)
                  simp only [List.forIn_cons, ne_eq, hname, not_false_eq_true, if_true, Sem.run_bind, h1, h2, Result.andThen_ok, Sem.run_pure]
                  exact this
              · cases hf
            · cases hf
        have := key fs.toList 0 hk (by omega)
        simp [Instr.checkKey, run_underlying hu] at this ⊢
        simpa using this
      · cases hk
    · rename_i n el hu
      split at hk
      · rename_i k1 sz ag g1 g2
        split at hk
        · rename_i hcond
          cases hk
          refine ⟨fun us xs _ hx hl => ?_, fun ha => by simp [hu, aggD] at ha⟩
          have hfl : ∀ n, (flatN k1 n).length = n * sz := by
            intro n
            induction n with
            | zero => simp [flatN]
            | succ n ihn => simp [flatN, ihn, hcond.1, Nat.add_mul]; omega
          rw [hfl] at hl
          have key : ∀ (k s : Nat), (s + k) * sz ≤ us.length →
              (forIn (List.range' s k) PUnit.unit fun i _ => do
                Instr.checkKey em (D + d) el (← part el xs (i * (← sizeOf el)))
                pure (ForInStep.yield PUnit.unit) : Sem PUnit).run P w = .ok PUnit.unit w := by
            intro k
            induction k with
            | zero => intro s _; simp
            | succ k ihk =>
              intro s hs
              have hs2 : s * sz + sz ≤ us.length := by
                have : (s + 1) * sz ≤ (s + (k + 1)) * sz := Nat.mul_le_mul_right _ (by omega)
                rw [Nat.add_mul] at this; omega
              obtain ⟨pa, h1, h2⟩ := (ih _ _ g1).part g2 hcond.2 hcond.1 D em hx (off := s * sz) hs2
              simp only [List.range'_succ, List.forIn_cons, Sem.run_bind, (tyI_some g2).1, h1, h2, Result.andThen_ok, Sem.run_pure]
              exact ihk (s + 1) (by rw [show s + 1 + k = s + (k + 1) by omega]; exact hs)
          have := key n 0 (by simp; omega)
          simp only [Instr.checkKey, Sem.run_bind, run_underlying hu, Result.andThen_ok]
          simp only [Std.Legacy.Range.forIn_eq_forIn_range', Std.Legacy.Range.size, Nat.sub_zero, Nat.add_one_sub_one, Nat.div_one]
          rw [this]
          rfl
        · cases hk
      · cases hk
    · cases hk

theorem findAsking_of {kt : TypeId} {d : TypeDesc} {ks : List CK} {xs : List AV} {xcs : Array Value} (hd : P.underlying kt = some d) (hda : aggD d = true) (hfl : flatK P 5 kt = some ks) (hx : CR m h w xs xcs) :
    ∀ {es : List (AV × AV)} {cs : List MapEntry} {i : Nat} {r : Option (Nat × AV)}, EntR m h w es cs → findB ks xs es i = some r →
      ∃ rr, (Instr.findAsking kt (.agg xcs) cs i).run P w = .ok rr w ∧ FindR m h w r rr ∧ ∀ j c, rr = some (j, c) → i ≤ j ∧ ∃ en, cs[j - i]? = some en ∧ en.key = .agg xcs ∧ ∀ n, Instr.sameBits (n + 2) (.agg xcs) (.agg xcs) = true
  | [], [], i, r, _, hf => by
    simp only [findB] at hf
    split at hf
    · cases hf; exact ⟨none, by simp [Instr.findAsking], trivial, fun j c hjc => by cases hjc⟩
    · cases hf
  | [], _ :: _, _, _, he, _ => he.elim
  | _ :: _, [], _, _, he, _ => he.elim
  | (k, v) :: es, c :: cs, i, r, ⟨h1, h2, h3⟩, hf => by
    simp only [findB] at hf
    split at hf
    · rename_i ys
      obtain ⟨ycs, hyc⟩ : ∃ ycs, c.key = .agg ycs := by
        generalize c.key = cc at h1
        cases h1 with
        | agg _ cs _ _ _ => exact ⟨cs, rfl⟩
      have hcy : CR m h w ys ycs := by
        rw [hyc] at h1
        cases h1 with
        | agg _ _ q1 q2 q3 => exact ⟨q1, q3⟩
      have hu : aggD ((P.underlying kt).getD .invalid) = true := by simp [hd, hda]
      split at hf
      · rename_i hs
        cases hf
        have hq := ((flatK_ok (P := P) (m := m) (h := h) (w := w) 5 hfl) 9995).1 _ _ xcs ycs true hu hx hcy hs
        have hq' : (Op.equal kt (.agg xcs) c.key).run P w = .ok true w := by rw [hyc]; exact hq
        obtain ⟨e1, e2⟩ := eqCells_same hs
        subst e1
        obtain ⟨e3, e4⟩ := cr_same hx hcy e2
        exact ⟨some (i, c.val), by simp [Instr.findAsking, hq'], ⟨rfl, h2⟩, fun j cc hjc => by cases hjc; exact ⟨Nat.le_refl _, c, by simp, by rw [hyc, e3], e4⟩⟩
      · rename_i hs
        have hq := ((flatK_ok (P := P) (m := m) (h := h) (w := w) 5 hfl) 9995).1 _ _ xcs ycs false hu hx hcy hs
        have hq' : (Op.equal kt (.agg xcs) c.key).run P w = .ok false w := by rw [hyc]; exact hq
        obtain ⟨rr, q1, q2, q3⟩ := findAsking_of hd hda hfl hx h3 hf
        refine ⟨rr, by simp [Instr.findAsking, hq', q1], q2, fun j cc hjc => ?_⟩
        obtain ⟨h5, en, h6, h7⟩ := q3 j cc hjc
        exact ⟨by omega, en, by rw [show j - i = (j - (i + 1)) + 1 by omega]; simpa using h6, h7⟩
      · cases hf
    · cases hf
theorem run_findKeyA {kt : TypeId} {d : TypeDesc} {xcs : Array Value} {cs : List MapEntry} {rr : Option (Nat × Value)} (hd : P.underlying kt = some d) (hda : aggD d = true) (hf : (Instr.findAsking kt (.agg xcs) cs 0).run P w = .ok rr w) : (Instr.findKey kt (.agg xcs) cs).run P w = .ok rr w := by
  cases cs with
  | nil =>
    simp [Instr.findAsking] at hf
    simp [Instr.findKey, run_underlying hd, Instr.findNow, ← hf]
  | cons c cs =>
    have : Instr.sameNow d (.agg xcs) c.key = none := by
      cases d <;> simp [aggD] at hda <;> simp [Instr.sameNow]
    simp [Instr.findKey, run_underlying hd, Instr.findNow, this, hf]
end
section
variable {P : Program} {N : Nat} {e e' : Env} {h h' : AHeap} {l : List CI} {Q : Exit → Env → AHeap → Prop}
theorem XOK.mputA {ks : List CK} {x y z : Opd} {id : Nat} {xs : List AV} {v : AV} {es : List (AV × AV)} {r : Option (Nat × AV)} (hx : ev e x = some (.map id)) (hy : ev e y = some (.agg xs)) (hz : ev e z = some v) (hg : h.get id = some (.map es)) (hf : findB ks xs es 0 = some r) :
    XOK P N (.mput (.a ks) x y z) e h none (.set id (.map (putM es (.agg xs) v r))) := by
  intro o hc e2 hs m w act hr he
  obtain ⟨t, kt, et, mo, ko, vo, hop, hu, h1, h2, h3, hmk⟩ := cx_mput hc
  have hx2 : ev e2 x = some (.map id) := (ev_congr fun s h => hs s (by simp [xslots, h])).trans hx
  have hy2 : ev e2 y = some (.agg xs) := (ev_congr fun s h => hs s (by simp [xslots, h])).trans hy
  have hz2 : ev e2 z = some v := (ev_congr fun s h => hs s (by simp [xslots, h])).trans hz
  have vm := he.eval h1 hx2
  have vk := he.eval h2 hy2
  have vv := he.eval h3 hz2
  obtain ⟨b, ens, ck, e1, hmb, hb, hlen, hent⟩ := map_obj hr hg vm
  obtain ⟨_, ens0, ck0, p1, p2, p3, p4⟩ := hr.obj _ _ hg
  rw [hmb] at p1; cases p1
  rw [hb] at p2; cases p2
  obtain ⟨hfl, d, hd, hda⟩ := mkind_a hmk
  obtain ⟨xcs, hxc⟩ : ∃ xcs, act.eval ko = .agg xcs := by
    generalize act.eval ko = c at vk
    cases vk with
    | agg _ cs _ _ _ => exact ⟨cs, rfl⟩
  have hcr : CR m h w xs xcs := by
    rw [hxc] at vk
    cases vk with
    | agg _ _ q1 q2 q3 => exact ⟨q1, q3⟩
  obtain ⟨rr, hfn, hfr, hat⟩ := findAsking_of (w := w) hd hda hfl hcr hent hf
  have hck : (Instr.checkKey false 10000 kt (act.eval ko)).run P w = .ok () w := by
    rw [hxc]; exact ((ckK_ok (P := P) (m := m) (h := h) (w := w) 5 hfl) 9995 false).1 _ _ (by simp [hd, hda]) hcr (findB_len hf hent hcr)
  have hfk : (Instr.findKey kt (act.eval ko) ens.toList).run P w = .ok rr w := by
    rw [hxc]; exact run_findKeyA hd hda hfn
  have key : ∃ ens' ck', (Instr.mapUpdate t (act.eval mo) (act.eval ko) (act.eval vo)).run P w = .ok () { w with heap := w.heap.setIfInBounds b (.map ens' ck') } ∧ (putM es (.agg xs) v r).length = ens'.size ∧
      ∀ (i : Nat) (k u : AV), (putM es (.agg xs) v r)[i]? = some (k, u) → VR m h w k (ens'.getD i default).key ∧ VR m h w u (ens'.getD i default).val := by
    rw [e1]
    cases r with
    | none =>
      cases rr with
      | some _ => exact hfr.elim
      | none =>
        refine ⟨ens.push { key := act.eval ko, val := act.eval vo, born := ck }, ck + 1, by simp [Instr.mapUpdate, run_underlying hu, MapKept.run_getObj_map hb, hck, hfk, MapKept.run_setObj_map _ hb, Result.andThen], by simp [putM, hlen], fun i k u hi => ?_⟩
        simp only [putM] at hi
        by_cases hlt : i < es.length
        · rw [List.getElem?_append_left hlt] at hi
          have := p4 i k u hi
          have h5 : (ens.push { key := act.eval ko, val := act.eval vo, born := ck }).getD i default = ens.getD i default := by
            simp [Array.getD_eq_getD_getElem?, Array.getElem?_push_lt (show i < ens.size by omega), show i < ens.size by omega]
          rw [h5]; exact this
        · have hi2 := (List.getElem?_eq_some_iff.1 hi).1
          simp at hi2
          have : i = es.length := by omega
          subst this
          simp at hi
          obtain ⟨rfl, rfl⟩ := hi
          have h5 : (ens.push { key := act.eval ko, val := act.eval vo, born := ck }).getD es.length default = { key := act.eval ko, val := act.eval vo, born := ck } := by
            rw [hlen]; simp [Array.getD_eq_getD_getElem?]
          rw [h5]; exact ⟨vk, vv⟩
    | some iv =>
      cases rr with
      | none => exact hfr.elim
      | some jc =>
        obtain ⟨j, c⟩ := jc
        obtain ⟨i0, v0⟩ := iv
        obtain ⟨q1, q2⟩ := hfr
        subst q1
        obtain ⟨_, en, q4, q7, q8⟩ := hat i0 c rfl
        have q8 := q8 9998
        rw [← hxc] at q7 q8
        have hj : ens[i0]? = some en := by simpa using q4
        refine ⟨ens.modify i0 fun e => { e with key := act.eval ko, val := act.eval vo }, ck, by simp [Instr.mapUpdate, run_underlying hu, MapKept.run_getObj_map hb, hck, hfk, hj, q7, Instr.keyThatStays, q8, MapKept.run_setObj_map _ hb, Result.andThen], by simp [putM, hlen], fun i k u hi => ?_⟩
        simp only [putM] at hi
        by_cases hin : i0 = i
        · subst hin
          have hlt : i0 < es.length := by
            have := (List.getElem?_eq_some_iff.1 hi).1
            simpa using this
          rw [List.getElem?_set_self hlt] at hi
          cases hi
          have h5 : (ens.modify i0 fun e => { e with key := act.eval ko, val := act.eval vo }).getD i0 default = { en with key := act.eval ko, val := act.eval vo } := by
            simp [Array.getD_eq_getD_getElem?, Array.getElem?_modify, hj]
          rw [h5]; exact ⟨vk, vv⟩
        · rw [List.getElem?_set_ne hin] at hi
          have := p4 i k u hi
          have h5 : (ens.modify i0 fun e => { e with key := act.eval ko, val := act.eval vo }).getD i default = ens.getD i default := by
            simp [Array.getD_eq_getD_getElem?, Array.getElem?_modify, hin]
          rw [h5]; exact this
  obtain ⟨ens', ck', hrun, hl', hv'⟩ := key
  have wu : WUpd w { w with heap := w.heap.setIfInBounds b (.map ens' ck') } b := WUpd.map hb
  have st := step_set hr hg hmb (x1 := .map (putM es (.agg xs) v r)) trivial wu
  refine ⟨m, _, hr.set (x1 := .map (putM es (.agg xs) v r)) hg hmb trivial wu ⟨b, ens', ck', hmb, (MapKept.heap_set hb).1, hl', fun i k u hi => ⟨(hv' i k u hi).1.step st, (hv' i k u hi).2.step st⟩⟩, st, ?_⟩
  rcases hop with hop | hop <;> simp [execOp, hop, hrun]


theorem FX.mputA {d : Option Nat} {g : Option (Nat × Bool)} {ks : List CK} {x y z : Opd} {id : Nat} {xs : List AV} {v : AV} {es : List (AV × AV)} {r : Option (Nat × AV)} (hx : ev e x = some (.map id)) (hy : ev e y = some (.agg xs)) (hz : ev e z = some v) (hm : h.get id = some (.map es)) (hf : findB ks xs es 0 = some r) (hg : met e g) :
    FX P N ⟨d, .raw (.mput (.a ks) x y z), g⟩ e h none (h.set id (some (.map (putM es (.agg xs) v r)))) := FX.raw (XOK.mputA hx hy hz hm hf) hg
end
end Go.Abs

--abbrs off
namespace Go.Abs
open Go
section
variable {e e' : Env} {h h1 : AHeap}
theorem gK (p : Keeps h h1 := by repeat first | with_reducible exact Keeps.refl _ | with_reducible refine Keeps.put ?_ (by omega) _ | with_reducible refine Keeps.set ?_ (by omega) _ | with_reducible refine Keeps.keep ?_ | assumption) : Keeps h h1 := p
theorem gE {i : Nat} {x : Option AObj} (p : h.get i = x := by repeat first | with_reducible apply get_put_neE (by omega) | with_reducible apply get_set_neE (by omega) | with_reducible apply get_keepE | exact rfl) : h.get i = x := p
theorem gSL {us vs : List AV} (p : SubL us vs := by repeat first | exact SubL.nil | refine SubL.cons (SubV.refl _) ?_ | refine SubL.cons SubV.app ?_ | refine SubL.cons SubV.nil ?_) : SubL us vs := p
theorem gSUB (p : subE e' e := by repeat first | exact subE.nil _ | (apply subE.cons; focus (first | exact rfl | (simp [lk_cons]; done) | (simp [lk_cons]; omega)))) : subE e' e := p
theorem gLE {n m : Nat} (p : n ≤ m := by repeat first | exact Nat.le_refl _ | refine next_le_put ?_ | refine next_le_set ?_ | assumption) : n ≤ m := p
theorem gRES {g : Nat → Option AObj} {rc : List RC} {rs : List AV} (p : resA g e rc = some rs := by repeat first | exact resA_nil | (apply resA_t; exact rfl) | (apply resA_c; exact rfl; exact gH; exact (by first | exact getC_at rfl rfl | exact getC_all rfl | exact getC_sub (Nat.le_of_ble_eq_true rfl) (by first | (simp only [putC, AV.cs, encP, encN, encI, encS, encA, List.take_succ_cons, List.take_zero, List.take_nil, List.drop_succ_cons, List.drop_zero, List.drop_nil, List.cons_append, List.nil_append, List.append_nil, List.length_cons, List.length_nil, Nat.zero_add, Nat.add_zero, Nat.reduceAdd]; exact rfl) | exact rfl) | exact getC_sub (by simp) (by first | (simp only [putC, AV.cs, encP, encN, encI, encS, encA, List.take_succ_cons, List.take_zero, List.take_nil, List.drop_succ_cons, List.drop_zero, List.drop_nil, List.cons_append, List.nil_append, List.append_nil, List.length_cons, List.length_nil, Nat.zero_add, Nat.add_zero, Nat.reduceAdd]; exact rfl) | exact rfl)))) : resA g e rc = some rs := p
end
end Go.Abs


namespace Go.Proofs.YtafkhpjnihnfpaaGreat
open Go Go.Abs
instance moI : MO Tryz.prog := ⟨by kernel_rfl⟩

abbrev Bs := List UInt8
theorem encB_flat (b : UInt8) : ∀ v ∈ encB b, AV.flat v = true := by simp [encB, AV.flat]
theorem flatB (l : Bs) : flatC (l.map encB) := flatC_map encB_flat

theorem bytes_Clone_ae (l : Bs) (hl : l.length ≤ 1000000) (h : AHeap) : AE Tryz.prog 33 [.imm 1 (l.map encB)] h (.imm 1 (l.map encB)) h := by
  refine AE.pureW is_bytes_Clone (by simp) ?_
  unfold c_bytes_Clone
  (refine go ?_)
  refine WL.fq1 (FQ.isnil rfl (by first | exact True.intro | exact rfl)) ?_
  rintro _ _ ⟨b, rfl, rfl, hb⟩
  (refine go ?_)
  (refine WW.ifB rfl (fun hz1 => ?_) (fun hz1 => ?_))
  · (refine go ?_)
    refine WW.ret (PureQ.finD ?_)
    have : l = [] := by simpa using hb hz1
    subst this
    exact .nil _
  · (refine go ?_)
    refine WW.ret (PureQ.finD ?_)
    exact fz_app rfl (flatB l)
/-- Byte i of n of a number, the highest first. -/
def byteOf (v : Int) (n i : Nat) : UInt8 := UInt8.ofNat ((v / 2 ^ (8 * (n - 1 - i))) % 256).toNat
def putB (v : Int) (n : Nat) : Bs := if n < 1 ∨ 8 < n then [] else (List.range n).map (byteOf v n)
theorem wrap_u8 (a : Int) : IntKind.u8.wrap a = ((UInt8.ofNat (a % 256).toNat).toNat : Int) := by
  have : IntKind.u8.wrap a = a % 256 := rfl
  rw [this]
  have h1 := Int.emod_nonneg a (show (256 : Int) ≠ 0 by decide)
  have h2 := Int.emod_lt_of_pos a (show (0 : Int) < 256 by decide)
  simp
  omega
theorem sh_byte {v b : Int} {k : Nat} (hb : b = ((8 * k : Nat) : Int)) (hk : 8 * k ≤ 64) : shA .shr .u64 v b = some (.int .u64 (v / 2 ^ (8 * k))) := by
  subst hb
  have h0 : (0 : Int) ≤ ((8 * k : Nat) : Int) := Int.natCast_nonneg _
  show req (0 ≤ ((8 * k : Nat) : Int)) _ = _
  rw [req_pos h0]
  have h1 : min (((8 * k : Nat) : Int).toNat) IntKind.u64.bits = 8 * k := by
    have : IntKind.u64.bits = 64 := rfl
    rw [this]; simp; omega
  rw [h1, Int.fdiv_eq_ediv_of_nonneg _ (by exact Int.le_of_lt (Int.pow_pos (by decide)))]
theorem byteOf_eq (v : Int) {n i : Nat} : IntKind.u8.wrap (v / 2 ^ (8 * (n - 1 - i))) = ((byteOf v n i).toNat : Int) := wrap_u8 _

theorem wire_Put_ae (v : Int) (n : Int) (h : AHeap) (hn : 0 ≤ n ∧ n ≤ 8) : AE Tryz.prog 105 [.int .u64 v, .int .i64 n] h (.imm 1 ((putB v n.toNat).map encB)) h := by
  obtain ⟨m, rfl⟩ := Int.eq_ofNat_of_zero_le hn.1
  refine AE.pureW is_wire_Put (by simp) ?_
  unfold c_wire_Put
  (refine go ?_)
  (apply WL.orB; exact rfl; exact rfl; exact rfl; exact BP.of; intro hz1)
  · (repeat first | (apply GW.goS; exact Stp.auto) | apply GW.nil | exact rfl)
  (refine go ?_)
  (refine WW.ifB rfl (fun hz2 => ?_) (fun hz2 => ?_))
  · (refine go ?_)
    refine WW.ret (PureQ.finD ?_)
    have : putB v m = [] := by
      rw [putB, if_pos]
      simp at hz2
      omega
    simp [this]
    exact .nil _
  have hm : 1 ≤ m ∧ m ≤ 8 := by simp at hz2; omega
  (refine go ?_)
  refine WW.loopE (fun (i : Nat) => [(0, some (.int .u64 v)), (1, some (.int .i64 m)), (5, some (.ref h.next 0 m)), (16, some (.int .i64 m)), (17, some (.int .i64 i))])
    (fun i h' => h'.get h.next = some (.mem 1 ((List.range m).map fun k => if k < i then encB (byteOf v m k) else [.int .u8 0])) ∧ Keeps h h' ∧ i ≤ m) (fun i => m - i) 0 gSUB ⟨?_, gK, by omega⟩ ?_
  · rw [← upto_none (x := [.int .u8 0]) (by intros; rfl)]
    exact gH
  rintro i h' ⟨g1, g2, g3⟩
  (refine go ?_)
  (refine WW.ifB rfl (fun hz3 => ?_) (fun hz3 => ?_))
  · (refine go ?_)
    have e1 : (8 : Int) * ((m : Int) - 1 - (i : Int)) = ((8 * (m - 1 - i) : Nat) : Int) := by omega
    refine WL.auto (Stp.sh rfl rfl (sh_byte e1 (by omega)) (by first | exact True.intro | exact rfl)) ?_
    refine WL.auto (Stp.conv rfl (byteOf_eq v) (by first | exact True.intro | exact rfl)) ?_
    (refine go ?_)
    refine ⟨i + 1, gSUB, ⟨?_, gK, by omega⟩, by omega⟩
    rw [get_set_same, Nat.zero_add, set_upto (by simp [putC, AV.cs, encB])]
  · (refine go ?_)
    refine WW.ret (PureQ.finD ?_)
    rw [upto_all (by omega)] at g1
    refine fz_ref g1 (Nat.le_refl _) (by simp) ?_ (flatC_map fun _ => encB_flat _)
    rw [putB, if_neg (by omega)]
    simp
theorem fdiv32 {a : Nat} (ha : a < 4294967296) : (a : Int).fdiv (2 ^ min (Int.toNat 32) IntKind.u64.bits) = 0 := by
  have h1 : min (Int.toNat 32) IntKind.u64.bits = 32 := rfl
  rw [h1, Int.fdiv_eq_ediv_of_nonneg _ (by decide)]
  omega
theorem and32 {a : Nat} (ha : a < 4294967296) : bits .and .u64 (a : Int) 4294967295 = a := by
  have h1 : bits .and .u64 (a : Int) ((4294967295 : Nat) : Int) = ((a &&& 4294967295 : Nat) : Int) := bits_and_u64_nat a 4294967295 (by omega) (by omega)
  have h2 : a &&& 4294967295 = a := by
    have := Nat.and_two_pow_sub_one_eq_mod a 32
    simp at this
    rw [this]; omega
  rw [h2] at h1
  exact h1
theorem wrapU {a : Nat} (ha : a < 18446744073709551616) : IntKind.u64.wrap (a : Int) = a := wrap_in (by constructor <;> omega)
/-- The lower half of a product, if it is small. -/
theorem bits_Mul64_ae (a b : Nat) (hab : a < 65536 ∧ b < 65536) (h : AHeap) : AE Tryz.prog 179 [.int .u64 a, .int .u64 b] h (.tup [.int .u64 0, .int .u64 (a * b : Nat)]) h := by
  have hp : a * b < 4294967296 := by
    have : a * b ≤ 65535 * 65535 := Nat.mul_le_mul (by omega) (by omega)
    omega
  have e1 := fdiv32 (a := a) (by omega)
  have e2 := fdiv32 (a := b) (by omega)
  have e3 := and32 (a := a) (by omega)
  have e4 := and32 (a := b) (by omega)
  have e5 : IntKind.u64.wrap ((a : Int) * b) = ((a * b : Nat) : Int) := by rw [← Int.natCast_mul]; exact wrapU (by omega)
  have e6 := fdiv32 (a := a * b) hp
  have e7 : IntKind.u64.wrap 0 = 0 := rfl
  have e8 : (0 : Int).fdiv (2 ^ min (Int.toNat 32) IntKind.u64.bits) = 0 := by simp
  have e9 : bits .and .u64 0 4294967295 = 0 := by rfl
  refine AE.pureW is_math_bits_Mul64 (by simp) ?_
  unfold c_math_bits_Mul64
  (refine go ?_)
  refine WW.ret (PureQ.finD ?_)
  refine Fz.tup2 (fz_i ?_) (fz_i (by first | exact e5 | simp))
  simp only [e1, e2, e3, e4, e5, e6, e7, e8, e9, Int.zero_mul, Int.mul_zero, Int.add_zero, Int.zero_add]
theorem bits_Mul_ae (a b : Nat) (hab : a < 65536 ∧ b < 65536) (h : AHeap) : AE Tryz.prog 148 [.int .u64 a, .int .u64 b] h (.tup [.int .u64 0, .int .u64 (a * b : Nat)]) h := by
  refine AE.pureW is_math_bits_Mul (by simp) ?_
  unfold c_math_bits_Mul
  (refine go ?_)
  refine WL.call rfl (by first | exact True.intro | exact rfl) gSL (bits_Mul64_ae a b hab _) ?_
  (refine go ?_)
  refine WW.ret (PureQ.finD ?_)
  exact Fz.tup2 (fz_i rfl) (fz_i rfl)

end Go.Proofs.YtafkhpjnihnfpaaGreat


namespace Go.Proofs.YtafkhpjnihnfpaaGreat
open Go Go.Abs

def x64 (a b : Int) : Int := bits .xor .u64 a b
def o64 (a b : Int) : Int := bits .or .u64 a b
def shl64 (a : Int) (n : Nat) : Int := IntKind.u64.wrap (a * 2 ^ n)
def shr64 (a : Int) (n : Nat) : Int := a.fdiv (2 ^ n)
/-- Turned right by 8, left by 3. -/
def rotR8 (x : Int) : Int := o64 (shl64 x 56) (shr64 x 8)
def rotL3 (x : Int) : Int := o64 (shl64 x 3) (shr64 x 61)
def mixF (x y k : Int) : Int × Int := (x64 (IntKind.u64.wrap (rotR8 x + y)) k, x64 (rotL3 y) (x64 (IntKind.u64.wrap (rotR8 x + y)) k))
/-- n round keys from the i-th on. -/
def rkF : Nat → Nat → Int → Int → List Int
  | 0, _, _, _ => []
  | n + 1, i, l, k => k :: rkF n (i + 1) (mixF l k (i : Int)).1 (mixF l k (i : Int)).2
def keysF (key : Pr) : List Int := rkF 32 0 key.1 key.2
def encF (key block : Pr) : Pr := (keysF key).foldl (fun s k => mixF s.1 s.2 k) block
def addF (a b : Pr) : Pr := (x64 a.1 b.1, x64 a.2 b.2)
def dblF (a : Pr) : Pr := (o64 (shl64 a.1 1) (shr64 a.2 63), if shr64 a.1 63 == 1 then x64 (shl64 a.2 1) 135 else shl64 a.2 1)
/-- Is digit i of b (from the highest on) set? -/
def digF (b : Pr) (i : Nat) : Bool := bits .and .u64 (shr64 (if i < 64 then b.1 else b.2) (63 - i % 64)) 1 == 1
def mulF (a b : Pr) : Pr := (List.range 128).foldl (fun out i => if digF b i then addF (dblF out) a else dblF out) (0, 0)
def evalF (h : Pr) (l : List Pr) : Pr := l.foldl (fun out x => mulF (addF x out) h) (0, 0)
def pairB (p : Pr) : Bs := putB p.1 8 ++ putB p.2 8
def getB (b : Bs) : Int := b.foldl (fun v c => o64 (shl64 v 8) (c.toNat : Int)) 0
def pairF (b : Bs) : Pr := (getB (b.take 8), getB (b.drop 8))
/-- Rows of 16, the last one shorter. -/
def rowsF (b : Bs) : List Bs := if h : b = [] then [] else b.take 16 :: rowsF (b.drop 16)
termination_by b.length
decreasing_by
  have : 0 < b.length := List.length_pos_iff.2 h
  simp; omega
def fillF (b : Bs) : Bs := b ++ List.replicate (16 - b.length) 0
def pairsF (b : Bs) : List Pr := (rowsF b).map fun r => pairF (fillF r)
def subF (key : Pr) (n : Nn) : Pr := encF key (o64 (shl64 (IntKind.u64.wrap n.1) 32) (IntKind.u64.wrap n.2.1), n.2.2)
/-- k rows of the flow from the i-th on. -/
def flowR (sub : Pr) : Nat → Nat → Bs
  | 0, _ => []
  | k + 1, i => pairB (encF sub ((i : Int), 0)) ++ flowR sub k (i + 1)
def flowF (sub : Pr) (n : Nat) : Bs := (flowR sub ((n + 15) / 16) 1).take n
def xorB (a b : Bs) : Bs := List.zipWith (fun x y => x ^^^ y) a b
def tagF (sub : Pr) (head b : Bs) : Pr := addF (evalF (encF sub (0, 1)) (pairsF head ++ pairsF b ++ [((head.length : Int), (b.length : Int))])) (encF sub (0, 0))
def gcmB (key : Pr) (n : Nn) (data : Bs) : Bs := xorB data (flowF (subF key n) data.length)
def gcmT (key : Pr) (n : Nn) (head b : Bs) : Pr := tagF (subF key n) head b
def gcmO (key : Pr) (n : Nn) (head b : Bs) (tg : Pr) : Option Bs := if head.length ≤ 4000 ∧ b.length ≤ 4000 ∧ gcmT key n head b = tg then some (gcmB key n b) else none
def stepF (s m : Pr) : Pr := (x64 (encF m s).1 s.1, x64 (encF m s).2 s.2)
def padF (p : Bs) : Bs := p ++ [128] ++ List.replicate ((24 - (p.length + 1) % 16) % 16) 0 ++ putB (p.length : Nat) 8
def digestF (p : Bs) : Pr := (rowsF (padF p)).foldl (fun s r => stepF s (pairF r)) (7640891576956012808, 13503953896175478587)
end Go.Proofs.YtafkhpjnihnfpaaGreat


namespace Go.Proofs.YtafkhpjnihnfpaaGreat
open Go Go.Abs

theorem rot_R8_ae (x : Int) (h : AHeap) : AE Tryz.prog 176 [.int .u64 x, .int .i64 (-8)] h (.int .u64 (rotR8 x)) h := by
  refine AE.pureW is_math_bits_RotateLeft64 (by simp) ?_
  unfold c_math_bits_RotateLeft64
  (repeat first | refine WW.seq ?_ | refine WW.reg ?_ | refine WL.nil ?_ | refine WW.skip ?_ | refine WW.block ?_ | refine thenN ?_ | refine blkN ?_); iterate 1 (refine WL.go ?_)
  (repeat first | refine WW.seq ?_ | refine WW.reg ?_ | refine WL.nil ?_ | refine WW.skip ?_ | refine WW.block ?_ | refine thenN ?_ | refine blkN ?_); iterate 1 (refine WL.go ?_)
  refine WL.auto (Stp.conv rfl (show IntKind.u64.wrap (-8) = 18446744073709551608 from rfl) (by first | exact True.intro | exact rfl)) ?_
  refine WL.auto (Stp.bin rfl rfl (show _ = some (AV.int .u64 56) from rfl) (by first | exact True.intro | exact rfl)) ?_
  (refine go ?_)
  refine WW.ret (PureQ.finD ?_)
  exact fz_i rfl
theorem rot_L3_ae (x : Int) (h : AHeap) : AE Tryz.prog 176 [.int .u64 x, .int .i64 3] h (.int .u64 (rotL3 x)) h := by
  refine AE.pureW is_math_bits_RotateLeft64 (by simp) ?_
  unfold c_math_bits_RotateLeft64
  (refine go ?_)
  refine WW.ret (PureQ.finD ?_)
  exact fz_i rfl
theorem speck_mix_ae (x y k : Int) (h : AHeap) : AE Tryz.prog 140 [.int .u64 x, .int .u64 y, .int .u64 k] h (.tup [.int .u64 (mixF x y k).1, .int .u64 (mixF x y k).2]) h := by
  refine AE.pureW is_speck_mix (by simp) ?_
  unfold c_speck_mix
  (refine go ?_)
  refine WL.call rfl (by first | exact True.intro | exact rfl) gSL (rot_R8_ae _ _) ?_
  (refine go ?_)
  refine WL.call rfl (by first | exact True.intro | exact rfl) gSL (rot_L3_ae _ _) ?_
  (refine go ?_)
  refine WW.ret (PureQ.finD ?_)
  exact Fz.tup2 (fz_i rfl) (fz_i rfl)
theorem flatP (p : Pr) : ∀ v ∈ encP p, AV.flat v = true := by simp [encP, AV.flat]
/-- A row of numbers. -/
def encW (v : Int) : List AV := [.int .u64 v]
theorem flatW (l : List Int) : flatC (l.map encW) := flatC_map fun v => by simp [encW, AV.flat]
theorem rkF_len : ∀ (n i : Nat) (l k : Int), (rkF n i l k).length = n
  | 0, _, _, _ => rfl
  | n + 1, i, l, k => by simp [rkF, rkF_len n]
theorem keysF_len (key : Pr) : (keysF key).length = 32 := rkF_len _ _ _ _
/-- Where the keys' making stands. -/
structure RkS where
  i : Nat
  l : Int
  k : Int
  a : List Int
theorem rk_step {key : Pr} {s : RkS} (h1 : s.i < 32) (h2 : keysF key = s.a ++ rkF (32 - s.i) s.i s.l s.k) : keysF key = (s.a ++ [s.k]) ++ rkF (32 - (s.i + 1)) (s.i + 1) (mixF s.l s.k (s.i : Int)).1 (mixF s.l s.k (s.i : Int)).2 := by
  rw [h2, List.append_assoc]
  congr 1
  rw [show 32 - s.i = (32 - (s.i + 1)) + 1 by omega]
  rfl
theorem speck_Keys_ae (key : Pr) (h : AHeap) : AE Tryz.prog 139 [.agg (encP key)] h (.imm 1 ((keysF key).map encW)) h := by
  refine AE.pureW is_speck_Keys (by simp) ?_
  unfold c_speck_Keys
  (refine go ?_)
  refine WW.cvt (Cvt.adopt 1 (s := 5) rfl gN) ?_
  refine WW.loopE (fun (s : RkS) => [(3, some (.int .u64 s.l)), (4, some (.int .u64 s.k)), (5, some (.app (h.next + 1) 0 1 (s.a.map encW))), (11, some (.int .u64 s.i))])
    (fun s h' => h'.get (h.next + 1) = some (.tail 0 s.i) ∧ Keeps h h' ∧ s.i ≤ 32 ∧ s.a.length = s.i ∧ keysF key = s.a ++ rkF (32 - s.i) s.i s.l s.k) (fun s => 32 - s.i) ⟨0, key.1, key.2, []⟩ gSUB ⟨(by repeat first | exact get_put_tl (by first | rfl | exact List.length_map _ | (simp; done) | (simp; omega)) | exact get_set_tl (by first | rfl | exact List.length_map _ | (simp; done) | (simp; omega)) | assumption | with_reducible apply get_put_neE (by omega) | with_reducible apply get_set_neE (by omega)), gK, by simp, rfl, rfl⟩ ?_
  rintro ⟨i, l, k, a⟩ h' ⟨g1, g2, g3, g4, g5⟩
  simp only at g1 g2 g3 g4 g5
  (refine go ?_)
  (refine WW.ifB rfl (fun hz1 => ?_) (fun hz1 => ?_))
  · have hi : i < 32 := by simp only at hz1; omega
    (refine go ?_)
    refine WL.call rfl (by first | exact True.intro | exact rfl) gSL (speck_mix_ae _ _ _ _) ?_
    (refine go ?_)
    refine ⟨⟨i + 1, (mixF l k (i : Int)).1, (mixF l k (i : Int)).2, a ++ [k]⟩, (by repeat first | exact subE.nil _ | (apply subE.cons; focus (first | exact rfl | (simp [lk_cons, encW]; done) | (simp [lk_cons, encW]; omega)))), ⟨(by repeat first | exact get_put_tl (by first | rfl | exact List.length_map _ | (simp; done) | (simp; omega)) | exact get_set_tl (by first | rfl | exact List.length_map _ | (simp; done) | (simp; omega)) | assumption | with_reducible apply get_put_neE (by omega) | with_reducible apply get_set_neE (by omega)), gK, hi, by simp [g4], rk_step (s := ⟨i, l, k, a⟩) hi g5⟩, (by show 32 - (i + 1) < 32 - i; omega)⟩
  · (refine go ?_)
    refine WW.ret (PureQ.finD ?_)
    refine fz_app ?_ (flatW _)
    rw [g5, show 32 - i = 0 by simp only at hz1; omega]
    simp [rkF]
theorem speck_Encrypt_ae (key block : Pr) (h : AHeap) : AE Tryz.prog 98 [.agg (encP key), .agg (encP block)] h (.agg (encP (encF key block))) h := by
  refine AE.pureW is_speck_Encrypt (by simp) ?_
  unfold c_speck_Encrypt
  (refine go ?_)
  refine WL.call rfl (by first | exact True.intro | exact rfl) gSL (speck_Keys_ae key _) ?_
  (refine go ?_)
  have hl := keysF_len key
  refine WW.loopE (fun (s : Nat × Pr) => [(5, some (.int .u64 s.2.1)), (6, some (.int .u64 s.2.2)), (14, some (.imm 1 ((keysF key).map encW))), (15, some (.int .i64 (keysF key).length)), (16, some (.int .i64 s.1)), (4, some (.ptr (h.next + 2) 0 0))])
    (fun s h' => h'.get (h.next + 2) = some (.mem 2 [[.int .u64 0, .int .u64 0]]) ∧ h'.next = h.next + 3 ∧ Keeps h h' ∧ s.1 ≤ (keysF key).length ∧ encF key block = ((keysF key).drop s.1).foldl (fun s k => mixF s.1 s.2 k) s.2) (fun s => (keysF key).length - s.1) (0, block) gSUB ⟨gH, gN, gK, by simp, by simp [encF]⟩ ?_
  rintro ⟨i, x, y⟩ h' ⟨g1, g2, g3, g4, g5⟩
  simp only at g1 g2 g3 g4 g5
  (refine go ?_)
  (refine WW.ifB rfl (fun hz1 => ?_) (fun hz1 => ?_))
  · have hi : i < (keysF key).length := by simp only at hz1; omega
    (refine go ?_)
    refine WL.call rfl (by first | exact True.intro | exact rfl) gSL (speck_mix_ae _ _ _ _) ?_
    (refine go ?_)
    refine ⟨(i + 1, mixF x y (keysF key)[i]), gSUB, ⟨gH, gN, gK, hi, ?_⟩, (by show _ - (i + 1) < _ - i; omega)⟩
    rw [g5, List.drop_eq_getElem_cons hi]; rfl
  · have hi : i = (keysF key).length := by simp only at hz1; omega
    (refine go ?_)
    refine WW.ret (PureQ.finD ?_)
    rw [g5, hi, List.drop_length]
    exact fz_agg rfl (flatP (x, y))
end Go.Proofs.YtafkhpjnihnfpaaGreat


set_option maxRecDepth 100000
namespace Go.Proofs.YtafkhpjnihnfpaaGreat
open Go Go.Abs

def c_lock_Ideal : CC := .seq (.reg [⟨some 0, .mov (.c .nilp), none⟩]) (.seq (.reg [⟨some 2, .call 72 [], none⟩, ⟨some 1, .mov (.t 2), none⟩]) (.seq (.reg [⟨some 3, .mov (.t 1), none⟩, ⟨some 4, .mkf (.func 73) [.t 3] [], none⟩, ⟨some 5, .mov (.t 1), none⟩, ⟨some 6, .mkf (.func 74) [.t 5] [], none⟩, ⟨some 7, .mov (.t 1), none⟩, ⟨some 8, .mkf (.func 75) [.t 7] [], none⟩, ⟨some 9, .mov (.t 1), none⟩, ⟨some 10, .mkf (.func 70) [.t 9] [], none⟩, ⟨some 11, .mov (.t 1), none⟩, ⟨some 12, .mkf (.func 71) [.t 11] [], none⟩, ⟨some 13, .build [.nilf, .nilf, .nilf, .nilf, .nilf] [(0, 1, .t 4), (1, 1, .t 6), (2, 1, .t 8), (3, 1, .t 10), (4, 1, .t 12)], none⟩, ⟨some 14, .box 5 (.t 13), none⟩, ⟨some 0, .mov (.t 14), none⟩]) .ret))
theorem is_lock_Ideal : FnIs Tryz.prog 42 15 c_lock_Ideal [.t 0] := ⟨Tryz.f42, _, Tryz.func42, rfl, rfl, by kernel_rfl, by kernel_rfl⟩

def c_lock_Real : CC := .seq (.reg [⟨some 0, .mov (.c .nilp), none⟩]) (.seq (.reg [⟨some 1, .mov (.c .nilp), none⟩]) (.seq (.reg [⟨some 2, .mov (.t 1), none⟩, ⟨some 3, .mkf (.func 70) [.t 2] [], none⟩, ⟨some 4, .mov (.t 1), none⟩, ⟨some 5, .mkf (.func 71) [.t 4] [], none⟩, ⟨some 6, .build [.nilf, .nilf, .nilf, .nilf, .nilf] [(0, 1, .c (.func (.func 67) [] [])), (1, 1, .c (.func (.func 68) [] [])), (2, 1, .c (.func (.func 69) [] [])), (3, 1, .t 3), (4, 1, .t 5)], none⟩, ⟨some 7, .box 5 (.t 6), none⟩, ⟨some 0, .mov (.t 7), none⟩]) .ret))
theorem is_lock_Real : FnIs Tryz.prog 41 8 c_lock_Real [.t 0] := ⟨Tryz.f41, _, Tryz.func41, rfl, rfl, by kernel_rfl, by kernel_rfl⟩

def c_lock_Lock_Seal : CC := .seq (.reg [⟨some 6, .box 2 (.t 1), none⟩, ⟨some 7, .box 3 (.t 2), none⟩, ⟨some 10, .alloc [.nils, .int .u64 0, .int .u64 0], none⟩, ⟨some 11, .mov (.c (.bool false)), none⟩]) (.seq (.seq (.reg [⟨some 12, .mov (.t 0), none⟩, ⟨some 13, .eqv .p false (.t 12) (.c .nilp), none⟩]) (.cond (.t 13) (.seq (.reg [⟨some 14, .build [.nils, .int .u64 0, .int .u64 0] [], none⟩, ⟨none, .store 3 (.t 10) (.t 14), none⟩, ⟨some 11, .mov (.c (.bool false)), none⟩]) .ret) .skip)) (.seq (.dreg [⟨some 15, .mov (.t 0), none⟩, ⟨some 16, .nilck (.t 15), none⟩, ⟨some 17, .faddr 0 (.t 16), none⟩, ⟨some 18, .load 1 false (.t 17), none⟩, ⟨some 19, .load 2 true (.t 6), none⟩, ⟨some 20, .load 3 true (.t 7), none⟩, ⟨some 21, .mov (.t 3), none⟩, ⟨some 22, .mov (.t 4), none⟩, ⟨some 23, .callv (.t 18) [.t 19, .t 20, .t 21, .t 22], none⟩, ⟨some 24, .ext 0 (.t 23), none⟩, ⟨some 25, .ext 1 (.t 23), none⟩, ⟨none, .store 3 (.t 10) (.t 24), none⟩, ⟨some 11, .mov (.t 25), none⟩] [[], [0], [1], [2], [], [], [], [], [3, 4, 5, 6, 7], [8], [8], [9, 8, 0, 1, 2, 3, 4, 5, 6, 7, 8, 9, 10], [10, 11, 0, 1, 2, 3, 4, 5, 6, 7, 8, 9, 10, 11]]) .ret))
theorem is_lock_Lock_Seal : FnIs Tryz.prog 172 26 c_lock_Lock_Seal [.cell 10 3 true, .t 11] := ⟨Tryz.f172, _, Tryz.func172, rfl, rfl, by kernel_rfl, by kernel_rfl⟩

def c_lock_Lock_Issued : CC := .seq (.reg [⟨some 2, .mov (.c .nils), none⟩]) (.seq (.seq (.reg [⟨some 3, .mov (.t 0), none⟩, ⟨some 4, .eqv .p false (.t 3) (.c .nilp), none⟩]) (.cond (.t 4) (.seq (.reg [⟨some 2, .mov (.c .nils), none⟩]) .ret) .skip)) (.seq (.reg [⟨some 5, .mov (.t 0), none⟩, ⟨some 6, .nilck (.t 5), none⟩, ⟨some 7, .faddr 3 (.t 6), none⟩, ⟨some 8, .load 1 false (.t 7), none⟩, ⟨some 9, .callv (.t 8) [], none⟩, ⟨some 2, .mov (.t 9), none⟩]) .ret))
theorem is_lock_Lock_Issued : FnIs Tryz.prog 34 10 c_lock_Lock_Issued [.t 2] := ⟨Tryz.f34, _, Tryz.func34, rfl, rfl, by kernel_rfl, by kernel_rfl⟩

def c_lock_Lock_Twice : CC := .seq (.reg [⟨some 2, .mov (.c (.bool false)), none⟩]) (.seq (.reg [⟨some 3, .mov (.t 0), none⟩, ⟨some 4, .eqv .p true (.t 3) (.c .nilp), none⟩, ⟨some 5, .mov (.t 4), none⟩, ⟨some 6, .mov (.t 0), some (5, true)⟩, ⟨some 7, .nilck (.t 6), some (5, true)⟩, ⟨some 8, .faddr 4 (.t 7), some (5, true)⟩, ⟨some 9, .load 1 false (.t 8), some (5, true)⟩, ⟨some 10, .callv (.t 9) [], some (5, true)⟩, ⟨some 11, .pick (.t 5) (.t 10) (.c (.bool false)), none⟩, ⟨some 2, .mov (.t 11), none⟩]) .ret)
theorem is_lock_Lock_Twice : FnIs Tryz.prog 36 12 c_lock_Lock_Twice [.t 2] := ⟨Tryz.f36, _, Tryz.func36, rfl, rfl, by kernel_rfl, by kernel_rfl⟩

end Go.Proofs.YtafkhpjnihnfpaaGreat


set_option maxRecDepth 100000
namespace Go.Proofs.YtafkhpjnihnfpaaGreat
open Go Go.Abs

def c_geom_Is : CC := .seq (.reg [⟨some 2, .mov (.c (.bool false)), none⟩]) (.seq (.reg [⟨some 3, .mov (.t 0), none⟩, ⟨some 4, .bin .eql (.t 3) (.c (.int .i64 4)), none⟩, ⟨some 5, .mov (.t 4), none⟩, ⟨some 6, .mov (.t 0), some (5, false)⟩, ⟨some 7, .bin .eql (.t 6) (.c (.int .i64 8)), some (5, false)⟩, ⟨some 8, .pick (.t 5) (.c (.bool true)) (.t 7), none⟩, ⟨some 9, .mov (.t 8), none⟩, ⟨some 10, .mov (.t 0), some (9, false)⟩, ⟨some 11, .bin .eql (.t 10) (.c (.int .i64 16)), some (9, false)⟩, ⟨some 12, .pick (.t 9) (.c (.bool true)) (.t 11), none⟩, ⟨some 2, .mov (.t 12), none⟩]) .ret)
theorem is_geom_Is : FnIs Tryz.prog 39 13 c_geom_Is [.t 2] := ⟨Tryz.f39, _, Tryz.func39, rfl, rfl, by kernel_rfl, by kernel_rfl⟩

end Go.Proofs.YtafkhpjnihnfpaaGreat


namespace Go.Proofs.YtafkhpjnihnfpaaGreat
open Go Go.Abs

/-- A row of bytes, as a row's cell. -/
def encR (b : Bs) : List AV := [.imm 1 (b.map encB)]
/-- A row said over and over, till n bytes. -/
def rep (l : Bs) (n : Nat) : Bs := (List.range n).map fun k => l.getD (k % l.length) 0
theorem bytes_Repeat_ae (l : Bs) (k : Nat) (hl : 0 < l.length) (hk : 0 < k) (hm : l.length * k ≤ 8192) (h : AHeap) : AE Tryz.prog 110 [.imm 1 (l.map encB), .int .i64 k] h (.imm 1 ((rep l (l.length * k)).map encB)) h := by
  have h1 : l.length ≤ 8192 := Nat.le_trans (Nat.le_mul_of_pos_right _ hk) hm
  have h2 : k ≤ 8192 := Nat.le_trans (Nat.le_mul_of_pos_left _ hl) hm
  generalize hn : l.length * k = n at hm
  refine AE.pureW is_bytes_Repeat (by simp) ?_
  unfold c_bytes_Repeat
  (refine go ?_)
  (refine WW.ifB rfl (fun hz1 => ?_) (fun hz1 => ?_))
  · omega
  (refine go ?_)
  refine WL.call rfl (by first | exact True.intro | exact rfl) gSL (bits_Mul_ae l.length k ⟨by omega, by omega⟩ _) ?_
  rw [hn]
  (refine go ?_)
  (refine WW.ifB rfl (fun hz2 => ?_) (fun hz2 => ?_))
  · omega
  (refine go ?_)
  (refine WW.ifB rfl (fun hz3 => ?_) (fun hz3 => ?_))
  · omega
  (refine go ?_)
  (refine WW.ifB rfl (fun hz4 => ?_) (fun hz4 => ?_))
  · omega
  (refine go ?_)
  refine WL.fq1 (FQ.noZero (n := n) (fn := Tryz.f149) (t := 31) (el := 5) (by kernel_rfl) (by kernel_rfl) (by kernel_rfl) (by kernel_rfl) (by kernel_rfl) (by kernel_rfl) rfl rfl (by omega) (by first | exact True.intro | exact rfl)) ?_
  rintro _ _ ⟨q, rfl, rfl⟩
  have hln : l.length ≤ n := by rw [← hn]; exact Nat.le_mul_of_pos_right _ hk
  have hmin : min (l.map encB).length n = l.length := by simp; omega
  (refine go ?_)
  refine WW.loopE (fun (s : Nat × List (List AV)) => [(7, some (.int .i64 n)), (8, some (.int .i64 n)), (9, some (.ref h.next 0 n)), (10, some (.int .i64 s.1))])
    (fun s h' => h'.get h.next = some (.mem 1 s.2) ∧ Keeps h h' ∧ s.2.length = n ∧ (∀ k, k < s.1 → s.2[k]? = some (encB (l.getD (k % l.length) 0))) ∧ 0 < s.1 ∧ s.1 ≤ n ∧ s.1 % l.length = 0) (fun s => n - s.1) (l.length, _) (by repeat first | exact subE.nil _ | (apply subE.cons; focus (first | exact rfl | (simp [lk_cons, hmin]; done) | (simp [lk_cons, hmin]; omega)))) ⟨gH, gK, by simp; omega, ?_, hl, hln, Nat.mod_self _⟩ ?_
  · intro j hj
    dsimp only at hj
    rw [Nat.mod_eq_of_lt hj]
    simp only [hmin]
    rw [List.append_assoc, List.getElem?_append_right (by simp), List.getElem?_append_left (by simp; omega)]
    simp [hj]
  rintro ⟨bp, C⟩ h2 ⟨g1, g2, g3, g4, g5, g6, g7⟩
  dsimp only at g1 g3 g4 g5 g6 g7 ⊢
  have e1 : (if (n : Int) < (bp : Int) then (n : Int) else (bp : Int)) = (bp : Int) := if_neg (by omega)
  (refine go ?_)
  (refine WW.ifB rfl (fun hz5 => ?_) (fun hz5 => ?_))
  · (refine go ?_)
    simp only [e1]
    (refine go ?_)
    have em : min (List.take ((bp : Int).toNat - 0) (List.drop (0 + 0) C)).length (n - bp) = min bp (n - bp) := by simp; omega
    refine ⟨(bp + min bp (n - bp), _), (by repeat first | exact subE.nil _ | (apply subE.cons; focus (first | exact rfl | (simp [lk_cons, em]; done) | (simp [lk_cons, em]; omega)))), ⟨gH, gK, ?_, ?_, by dsimp only; omega, by dsimp only; omega, ?_⟩, by dsimp only; omega⟩
    all_goals dsimp only
    all_goals try rw [em]
    · simp [g3]; omega
    · intro j hj
      by_cases hjb : j < bp
      · rw [List.append_assoc, List.getElem?_append_left (by simp; omega), List.getElem?_take_of_lt (by omega)]
        exact g4 j hjb
      · have hlen : (List.take (0 + bp) C).length = bp := by simp; omega
        rw [List.append_assoc, List.getElem?_append_right (by omega), hlen, List.getElem?_append_left (by simp; omega), List.getElem?_take_of_lt (by omega)]
        rw [show ((bp : Int).toNat - 0) = bp by omega, List.getElem?_take_of_lt (by omega), Nat.add_zero, List.drop_zero, g4 (j - bp) (by omega)]
        have : j % l.length = (j - bp) % l.length := by
          obtain ⟨t, ht⟩ := Nat.dvd_of_mod_eq_zero g7
          have : j = (j - bp) + l.length * t := by omega
          rw [this, Nat.add_mul_mod_self_left]
          congr 1
          omega
        rw [this]
    · by_cases hb : bp ≤ n - bp
      · rw [Nat.min_eq_left hb]
        obtain ⟨t, ht⟩ := Nat.dvd_of_mod_eq_zero g7
        rw [ht, ← Nat.mul_add]
        exact Nat.mul_mod_right _ _
      · rw [show bp + min bp (n - bp) = l.length * k by omega]
        exact Nat.mul_mod_right _ _
  · (refine go ?_)
    refine WW.ret (PureQ.finD ?_)
    have : bp = n := by omega
    subst this
    have hC : C = (rep l bp).map encB := by
      refine List.ext_getElem? fun j => ?_
      by_cases hj : j < bp
      · rw [g4 j hj]; simp [rep, hj]
      · rw [List.getElem?_eq_none (by omega), List.getElem?_eq_none (by simp [rep]; omega)]
    exact fz_ref g1 (Nat.le_refl _) g3 hC (by rw [hC]; exact flatB _)
end Go.Proofs.YtafkhpjnihnfpaaGreat


namespace Go.Proofs.YtafkhpjnihnfpaaGreat
open Go Go.Abs

theorem clo_encI {u : Nat → Prop} (x : Iss) : ∀ v ∈ encI x, Clo u v := by
  intro v hv
  simp only [encI, List.mem_cons, List.not_mem_nil, or_false] at hv
  rcases hv with rfl | rfl | rfl | rfl | rfl | rfl | rfl | rfl | rfl | rfl <;> first | exact .int _ _ | exact clo_imm (flatB _)
theorem clo_encS {u : Nat → Prop} (b : Bs) (t : Pr) : ∀ v ∈ encS b t, Clo u v := by
  intro v hv
  simp only [encS, List.mem_cons, List.not_mem_nil, or_false] at hv
  rcases hv with rfl | rfl | rfl <;> first | exact .int _ _ | exact clo_imm (flatB _)
/-- What was summed. -/
def encM (S : List Bs) : List (AV × AV) := S.zipIdx.map fun p => (.str p.1, .int .u64 (p.2 + 1 : Nat))
structure OrAt (h : AHeap) (o t s g : Nat) (L : List Iss) (S : List Bs) : Prop where
  obj : h.get o = some (.mem 2 [[.app t g 10 (L.map encI), .map s]])
  tok : h.get t = some (.tail g L.length)
  sums : h.get s = some (.map (encM S))

theorem oracle_told_ae (x : Iss) (hx : x.head.length ≤ 1000000 ∧ x.data.length ≤ 1000000 ∧ x.out.length ≤ 1000000) (h : AHeap) : AE Tryz.prog 109 [.agg (encI x)] h (.agg (encI x)) h := by
  refine AE.pureW is_oracle_told (by simp) ?_
  unfold c_oracle_told
  (refine go ?_)
  refine DW.callS rfl (by first | exact True.intro | exact rfl) gSL rfl (bytes_Clone_ae x.head hx.1 _) ?_
  (refine go ?_)
  refine DW.callS rfl (by first | exact True.intro | exact rfl) gSL rfl (bytes_Clone_ae x.data hx.2.1 _) ?_
  (refine go ?_)
  refine DW.callS rfl (by first | exact True.intro | exact rfl) gSL rfl (bytes_Clone_ae x.out hx.2.2 _) ?_
  (refine go ?_)
  refine WW.ret (PureQ.finD ?_)
  exact .clo _ (.agg _ (clo_encI x))

/-- What a sealed row is: the number of the sealing, over and over. -/
def sealB (N : Int) (n : Nat) : Bs := rep (putB N 8) n
theorem rep_take (l : Bs) {n m : Nat} (hn : n ≤ m) : (rep l m).take n = rep l n := by
  simp [rep, ← List.map_take, List.take_range, Nat.min_eq_left hn]
def ones : Int := 18446744073709551615
theorem rep_len (l : Bs) (n : Nat) : (rep l n).length = n := by simp [rep]
/-- What is remembered of a sealing. -/
def newI (N : Nat) (k : Pr) (n : Nn) (head data : Bs) : Iss := ⟨k, n, head, data, sealB (N : Int) data.length, (ones, (N : Int))⟩
theorem putB_len (v : Int) : (putB v 8).length = 8 := by simp [putB]

set_option maxHeartbeats 4000000 in
theorem oracle_Seal_ae {h : AHeap} {o t s g : Nat} {L : List Iss} {S : List Bs} (hO : OrAt h o t s g L S) (hL : L.length ≤ 1000000) (k : Pr) (n : Nn) (head data : Bs) (hh : head.length ≤ 4000) (hd : data.length ≤ 4000) :
    AE Tryz.prog 73 [.ptr o 0 0, .agg (encP k), .agg (encN n), .imm 1 (head.map encB), .imm 1 (data.map encB)] h
      (.tup [.agg (encS (newI (L.length + 1) k n head data).out (newI (L.length + 1) k n head data).tag), .bool true])
      ((h.set t (some (.tail g (L.length + 1)))).set o (some (.mem 2 [[.app t g 10 ((L ++ [newI (L.length + 1) k n head data]).map encI), .map s]]))) := by
  obtain ⟨q1, q2, q3⟩ := hO
  refine AE.wf fun hwf => ?_
  have ho := hwf _ _ q1
  have ht := hwf _ _ q2
  have hne : o ≠ t := fun e => by subst e; rw [q1] at q2; cases q2
  refine AE.effW is_oracle_Oracle_Seal (by simp) ?_ ?_
  · refine Ext.set (Ext.set (x := .tail _ _) Ext.refl (Nm.old q2) trivial) (Nm.old q1) ?_
    intro x hx v hv
    simp only [List.mem_singleton] at hx
    subst hx
    simp only [List.mem_cons, List.not_mem_nil, or_false] at hv
    rcases hv with rfl | rfl
    · exact .app _ _ _ _ (Nm.old q2) fun x hx v hv => by
        obtain ⟨i, _, rfl⟩ := List.mem_map.1 hx
        exact clo_encI i v hv
    · exact .map _ (Nm.old q3)
  unfold c_oracle_Oracle_Seal
  (refine go ?_)
  (apply WL.orB; exact rfl; exact rfl; exact rfl; exact BP.of; intro hz1)
  · (repeat first | (apply GW.goS; exact Stp.auto) | apply GW.nil | exact rfl)
  (refine go ?_)
  (refine WW.ifB rfl (fun hz2 => ?_) (fun hz2 => ?_))
  · simp at hz2; omega
  (refine go ?_)
  refine WL.call rfl (by first | exact True.intro | exact rfl) gSL (wire_Put_ae (L.length + 1 : Nat) 8 _ (by decide)) ?_
  (refine go ?_)
  refine WL.call rfl (by first | exact True.intro | exact rfl) gSL (bytes_Repeat_ae (putB (L.length + 1 : Nat) 8) (data.length / 8 + 1) (by rw [putB_len]; decide) (by omega) (by rw [putB_len]; omega) _) ?_
  rw [putB_len]
  (refine go ?_)
  refine WL.auto (Stp.slcI (j := data.length) rfl (by first | exact bnd_none | exact bnd_some rfl rfl | exact bnd_some rfl (Int.toNat_of_nonneg (by omega)).symm) (by first | exact bnd_none | exact bnd_some rfl rfl | exact bnd_some rfl (Int.toNat_of_nonneg (by omega)).symm) (Nat.zero_le _) (by simp only [List.length_map, rep_len]; omega) (by first | exact True.intro | exact rfl)) ?_
  rw [List.drop_zero, ← List.map_take, rep_take _ (by omega)]
  (refine go ?_)
  refine WW.dregX [11, 12] [0, 1, 3, 5] [] gN (by decide +kernel) ?_
  (refine go ?_)
  refine DW.callSF (by repeat first | exact PhiW.refl | refine PhiW.put (by omega) ?_ | refine PhiW.setW (by simp) ?_ | refine PhiW.setN (by omega) ?_) rfl (by first | exact True.intro | exact rfl) gSL (fun h2 hp2 => bytes_Clone_ae head (by omega) h2) ?_
  (refine go ?_)
  refine DW.callSF (by repeat first | exact PhiW.refl | refine PhiW.put (by omega) ?_ | refine PhiW.setW (by simp) ?_ | refine PhiW.setN (by omega) ?_) rfl (by first | exact True.intro | exact rfl) gSL (fun h2 hp2 => bytes_Clone_ae data (by omega) h2) ?_
  (refine go ?_)
  refine WL.call rfl (by first | exact True.intro | exact rfl) gSL (oracle_told_ae (newI (L.length + 1) k n head data) ⟨by simp only [newI]; omega, by simp only [newI]; omega, by simp only [newI, sealB, rep_len]; omega⟩ _) ?_
  (refine go ?_)
  refine WW.ret (EffQ.finD ?_ ?_)
  · refine ⟨gLE, fun id hu => ?_⟩; have hlt : id < AHeap.next h := hu.1; simp only [get_put, get_set]; (repeat' split) <;> first | rfl | omega | (simp [encI, newI, sealB, ones]; done)
  · refine .clo _ (.tup _ fun v hv => ?_)
    simp only [List.mem_cons, List.not_mem_nil, or_false] at hv
    rcases hv with rfl | rfl
    · exact .agg _ (clo_encS _ _)
    · exact .bool _

/-- The heap with a new Oracle: its sums at the first new name, itself at the second, its row at the third. -/
def newO (h : AHeap) : AHeap := (((h.put h.next (.map [])).put (h.next + 1) (.mem 2 [[.nils, .map h.next]])).put (h.next + 2) (.tail 0 0)).set (h.next + 1) (some (.mem 2 [[.app (h.next + 2) 0 10 [], .map h.next]]))
theorem newO_at (h : AHeap) : OrAt (newO h) (h.next + 1) (h.next + 2) h.next 0 [] [] :=
  ⟨get_set_same, get_set_neE (by omega) get_put_same, get_set_neE (by omega) (get_put_neE (by omega) (get_put_neE (by omega) get_put_same))⟩
theorem newO_next (h : AHeap) : (newO h).next = h.next + 3 := next_setE (next_putE (next_putE (next_putE rfl)))
theorem newO_get (h : AHeap) {id : Nat} (hid : id < h.next) : (newO h).get id = h.get id := by
  simp only [newO, get_put, get_set]
  rw [if_neg (by omega), if_neg (by omega), if_neg (by omega), if_neg (by omega)]
theorem oracle_New_ae (h : AHeap) : AE Tryz.prog 72 [] h (.ptr (h.next + 1) 0 0) (newO h) := by
  refine AC.introW is_oracle_New (by simp) ?_
  unfold c_oracle_New
  (refine go ?_)
  refine WW.cvt (Cvt.adoptM 10 (i := 0) (j := 0) gH rfl rfl gN) ?_
  exact WW.ret ⟨.inl rfl, _, gRES, rfl, rfl⟩
end Go.Proofs.YtafkhpjnihnfpaaGreat


namespace Go.Proofs.YtafkhpjnihnfpaaGreat
open Go Go.Abs

def isI (k : Pr) (n : Nn) (head b : Bs) (tg : Pr) (x : Iss) : Bool := x.key == k && x.n == n && x.tag == tg && x.head == head && x.out == b
def openO (L : List Iss) (k : Pr) (n : Nn) (head b : Bs) (tg : Pr) : Option Bs := (L.find? (isI k n head b tg)).map (·.data)
/-- Which row was it? -/
def idxS (k : Bs) : List Bs → Option Nat
  | [] => none
  | s :: S => if k = s then some 0 else (idxS k S).map (· + 1)
def sumN (S : List Bs) (k : Bs) : Nat := (idxS k S).getD S.length + 1
def sumS (S : List Bs) (k : Bs) : List Bs := if (idxS k S).isSome then S else S ++ [k]
def eees : Int := 17216961135462248174
theorem clo_encM {u : Nat → Prop} (S : List Bs) : ∀ kv ∈ encM S, Clo u kv.1 ∧ Clo u kv.2 := by
  intro kv hkv
  obtain ⟨p, _, rfl⟩ := List.mem_map.1 hkv
  exact ⟨.str _, .int _ _⟩
theorem oracle_Issued_ae {h : AHeap} {o t s g : Nat} {L : List Iss} {S : List Bs} (hO : OrAt h o t s g L S) (hL : L.length ≤ 1000000) (hx : ∀ x ∈ L, x.head.length ≤ 1000000 ∧ x.data.length ≤ 1000000 ∧ x.out.length ≤ 1000000) :
    AE Tryz.prog 70 [.ptr o 0 0] h (.imm 10 (L.map encI)) h := by
  obtain ⟨q1, q2, q3⟩ := hO
  refine AE.wf fun hwf => ?_
  have ho := hwf _ _ q1
  refine AE.pureW is_oracle_Oracle_Issued (by simp) ?_
  unfold c_oracle_Oracle_Issued
  (refine go ?_)
  refine WW.cvt (Cvt.adopt 10 (s := 3) rfl gN) ?_
  refine WW.loopE (fun (i : Nat) => [(3, some (.app h.next 0 10 ((L.take i).map encI))), (11, some (.app t g 10 (L.map encI))), (12, some (.int .i64 L.length)), (13, some (.int .i64 i))])
    (fun i h' => h'.get h.next = some (.tail 0 i) ∧ h.next < h'.next ∧ Keeps h h' ∧ i ≤ L.length) (fun i => L.length - i) 0 gSUB ⟨gH, (ltN gN (by omega)), gK, Nat.zero_le _⟩ ?_
  rintro i h' ⟨g1, g2, g3, g4⟩
  (refine go ?_)
  (refine WW.ifB rfl (fun hz1 => ?_) (fun hz1 => ?_))
  · have hi : i < L.length := by omega
    have hlen : (L.take i).length = i := by simp; omega
    (refine go ?_)
    refine WL.call rfl (by first | exact True.intro | exact rfl) gSL (oracle_told_ae L[i] (hx _ (List.getElem_mem hi)) _) ?_
    (refine go ?_)
    have e1 : (L.take (i + 1)).map encI = (L.take i).map encI ++ [encI L[i]] := by rw [List.take_succ_eq_append_getElem hi, List.map_append]; rfl
    refine ⟨i + 1, subE.cons (by rw [e1]; rfl) gSUB, ⟨(by repeat first | exact get_put_tl (by first | rfl | exact List.length_map _ | (simp; done) | (simp; omega)) | exact get_set_tl (by first | rfl | exact List.length_map _ | (simp; done) | (simp; omega)) | assumption | with_reducible apply get_put_neE (by omega) | with_reducible apply get_set_neE (by omega)), (ltN gN (by omega)), gK, by omega⟩, by omega⟩
  · have hi : i = L.length := by omega
    subst hi
    (refine go ?_)
    refine WW.ret (PureQ.finD ?_)
    rw [List.take_length]
    refine .app _ _ _ _ fun x hx v hv => ?_
    obtain ⟨y, _, rfl⟩ := List.mem_map.1 hx
    exact clo_encI y v hv

/-- The key and the number. -/
abbrev KN := Pr × Nn
def kn (x : Iss) : KN := (x.key, x.n)
def encK (q : KN) : List AV := [.int .u64 q.1.1, .int .u64 q.1.2, .int .u32 q.2.1, .int .u32 q.2.2.1, .int .u64 q.2.2.2]
def encT (ks : List KN) : List (AV × AV) := ks.map fun q => (.agg (encK q), .bool true)
/-- Each one once, as first met. -/
def nubK (ks : List KN) : List KN := ks.foldl (fun acc q => if q ∈ acc then acc else acc ++ [q]) []
theorem nubK_snoc (ks : List KN) (q : KN) : nubK (ks ++ [q]) = if q ∈ nubK ks then nubK ks else nubK ks ++ [q] := by
  unfold nubK
  rw [List.foldl_append]
  rfl
theorem snoc_ind {α : Type} {p : List α → Prop} (h0 : p []) (h1 : ∀ l a, p l → p (l ++ [a])) (l : List α) : p l := by
  have key : ∀ l : List α, p l.reverse := by
    intro l
    induction l with
    | nil => exact h0
    | cons a l ih => rw [List.reverse_cons]; exact h1 _ _ ih
  have := key l.reverse
  rwa [List.reverse_reverse] at this
theorem nubK_le (ks : List KN) : (nubK ks).length ≤ ks.length := by
  refine snoc_ind (p := fun ks => (nubK ks).length ≤ ks.length) (by simp [nubK]) (fun ks q ih => ?_) ks
  rw [nubK_snoc]; split <;> simp <;> omega
theorem nubK_all (ks : List KN) : ∀ p : KN, p ∈ nubK ks ↔ p ∈ ks := by
  refine snoc_ind (p := fun ks => ∀ p : KN, p ∈ nubK ks ↔ p ∈ ks) (by simp [nubK]) (fun ks q ih p => ?_) ks
  rw [nubK_snoc]
  split
  · rename_i h
    rw [ih] at h
    simp only [List.mem_append, List.mem_singleton]
    rw [ih]
    constructor
    · exact .inl
    · rintro (h1 | rfl)
      · exact h1
      · exact h
  · simp only [List.mem_append, List.mem_singleton, ih]
theorem nubK_mem (ks : List KN) (p : KN) : p ∈ nubK ks ↔ p ∈ ks := nubK_all ks p
/-- Is one met twice? -/
def dupB (ks : List KN) : Bool := !decide ks.Nodup
theorem nubK_dup (ks : List KN) : decide ((nubK ks).length < ks.length) = dupB ks := by
  have key : (nubK ks).length = ks.length ↔ ks.Nodup := by
    refine snoc_ind (p := fun ks => (nubK ks).length = ks.length ↔ ks.Nodup) (by simp [nubK]) (fun ks q ih => ?_) ks
    · have hle := nubK_le ks
      rw [nubK_snoc]
      split
      · rename_i h
        rw [nubK_mem] at h
        constructor
        · intro he; simp at he; omega
        · intro hn
          rw [List.nodup_append] at hn
          exact absurd rfl (hn.2.2 q h q (by simp))
      · rename_i h
        rw [nubK_mem] at h
        simp only [List.length_append, List.length_singleton, Nat.add_right_cancel_iff]
        rw [ih, List.nodup_append]
        constructor
        · exact fun h1 => ⟨h1, by simp, fun a ha b hb => by simp at hb; subst hb; exact fun e => h (e ▸ ha)⟩
        · exact fun h1 => h1.1
  have hle := nubK_le ks
  unfold dupB
  by_cases hn : ks.Nodup
  · have := key.2 hn; simp [hn, this]
  · have : (nubK ks).length ≠ ks.length := fun h => hn (key.1 h)
    simp [hn]; omega
theorem findB_K (q : KN) : ∀ (ks : List KN) (i : Nat), ∃ r, findB [.i, .i, .i, .i, .i] (encK q) (encT ks) i = some r ∧ (r = none ↔ q ∉ ks) ∧ ∀ j v, r = some (j, v) → i ≤ j ∧ ks[j - i]? = some q
  | [], i => ⟨none, by simp [findB, encT, encK], by simp, by simp⟩
  | p :: ks, i => by
    obtain ⟨r, h1, h2, h3⟩ := findB_K q ks (i + 1)
    have he : eqCells [.i, .i, .i, .i, .i] (encK q) (encK p) = some (decide (q = p)) := by
      simp only [encK, eqCells, if_true, Option.map_some, Option.some.injEq]
      obtain ⟨⟨a, b⟩, c, d, e⟩ := q
      obtain ⟨⟨a', b'⟩, c', d', e'⟩ := p
      simp only [Prod.mk.injEq, Bool.and_true]
      rw [Bool.eq_iff_iff]
      simp [and_assoc]
    by_cases hq : q = p
    · subst hq
      exact ⟨some (i, .bool true), by simp [findB, encT, he], by simp, fun j v hjv => by cases hjv; exact ⟨Nat.le_refl _, by simp⟩⟩
    · refine ⟨r, by simp only [encT, List.map_cons, findB, he, decide_eq_false hq]; exact h1, by rw [h2]; simp [hq], fun j v hjv => ?_⟩
      obtain ⟨h4, h5⟩ := h3 j v hjv
      exact ⟨by omega, by rw [show j - i = (j - (i + 1)) + 1 by omega]; simpa using h5⟩
theorem putM_K (q : KN) (ks : List KN) : ∃ r, findB [.i, .i, .i, .i, .i] (encK q) (encT ks) 0 = some r ∧ putM (encT ks) (.agg (encK q)) (.bool true) r = encT (if q ∈ ks then ks else ks ++ [q]) := by
  obtain ⟨r, h1, h2, h3⟩ := findB_K q ks 0
  refine ⟨r, h1, ?_⟩
  cases r with
  | none =>
    rw [if_neg (h2.1 rfl)]
    simp [putM, encT]
  | some jv =>
    obtain ⟨j, v⟩ := jv
    have hm : q ∈ ks := by
      by_cases h : q ∈ ks
      · exact h
      · exact absurd (h2.2 h) (by simp)
    rw [if_pos hm]
    obtain ⟨_, h5⟩ := h3 j v rfl
    simp only [putM, encT]
    refine List.ext_getElem? fun k => ?_
    rw [List.getElem?_set]
    split
    · rename_i e; subst e
      have : j < ks.length := (List.getElem?_eq_some_iff.1 h5).1
      simp only [Nat.sub_zero] at h5
      obtain ⟨_, e⟩ := List.getElem?_eq_some_iff.1 h5
      simp [this, e]
    · rfl
theorem oracle_Twice_ae {h : AHeap} {o t s g : Nat} {L : List Iss} {S : List Bs} (hO : OrAt h o t s g L S) (hL : L.length ≤ 1000000) :
    AE Tryz.prog 71 [.ptr o 0 0] h (.bool (dupB (L.map kn))) h := by
  obtain ⟨q1, q2, q3⟩ := hO
  refine AE.wf fun hwf => ?_
  have ho := hwf _ _ q1
  refine AE.pureW is_oracle_Oracle_Twice (by simp) ?_
  unfold c_oracle_Oracle_Twice
  (refine go ?_)
  refine WW.loopE (fun (i : Nat) => [(0, some (.ptr o 0 0)), (3, some (.map h.next)), (12, some (.app t g 10 (L.map encI))), (13, some (.int .i64 L.length)), (14, some (.int .i64 i))])
    (fun i h' => h'.get h.next = some (.map (encT (nubK ((L.take i).map kn)))) ∧ h'.get o = some (.mem 2 [[.app t g 10 (L.map encI), .map s]]) ∧ h.next < h'.next ∧ Keeps h h' ∧ i ≤ L.length) (fun i => L.length - i) 0 gSUB ⟨gH, gH, (ltN gN (by omega)), gK, Nat.zero_le _⟩ ?_
  rintro i h' ⟨g1, g2, g3, g4, g5⟩
  (refine go ?_)
  (refine WW.ifB rfl (fun hz1 => ?_) (fun hz1 => ?_))
  · have hi : i < L.length := by omega
    (refine go ?_)
    obtain ⟨r, hr1, hr2⟩ := putM_K (kn L[i]) (nubK ((L.take i).map kn))
    refine WL.fx0 (FX.mputA rfl rfl rfl gH hr1 (by first | exact True.intro | exact rfl)) ?_
    (refine go ?_)
    refine ⟨i + 1, gSUB, ⟨?_, gH, (ltN gN (by omega)), gK, by omega⟩, by omega⟩
    rw [get_set_same]
    have e1 : (L.take (i + 1)).map kn = (L.take i).map kn ++ [kn L[i]] := by rw [List.take_succ_eq_append_getElem hi, List.map_append]; rfl
    rw [e1, nubK_snoc, ← hr2]
    rfl
  · have hi : i = L.length := by omega
    subst hi
    have e9 : (encT (nubK ((L.take L.length).map kn))).length = (nubK (L.map kn)).length := by rw [List.take_length]; simp [encT]
    (refine go ?_)
    refine WW.ret (PureQ.finD ?_)
    refine fz_b ?_
    rw [← nubK_dup, e9]
    simp
end Go.Proofs.YtafkhpjnihnfpaaGreat


namespace Go.Abs
open Go

/-- k names are kept for later. -/
def AHeap.keep (h : AHeap) (k : Nat) : AHeap := { h with next := h.next + k, gap := fun j => h.gap j || (decide (h.next ≤ j) && decide (j < h.next + k)) }
theorem get_keepE {h : AHeap} {k id : Nat} {x : Option AObj} (hx : h.get id = x) : (h.keep k).get id = x := hx
theorem next_keepE {h : AHeap} {k n : Nat} (hn : h.next = n) : (h.keep k).next = n + k := by subst hn; rfl
theorem next_putK {h : AHeap} {id n : Nat} {x : AObj} (hl : id < n) (hn : h.next = n) : (h.put id x).next = n := by subst hn; simp [AHeap.put, hl]
theorem Keeps.keep {h h1 : AHeap} {k : Nat} (hk : Keeps h h1) : Keeps h (h1.keep k) := ⟨Nat.le_trans hk.1 (Nat.le_add_right _ _), hk.2⟩

section
variable {P : Program} {N : Nat} {e e' : Env} {h h' : AHeap} {l : List CI} {Q : Exit → Env → AHeap → Prop} {m : Inj} {w : World}

theorem used_keep {k id : Nat} (hu : h.used id) : (h.keep k).used id := by
  obtain ⟨h1, h2⟩ := hu
  refine ⟨by simp only [AHeap.keep]; omega, ?_⟩
  simp only [AHeap.keep, h2, Bool.false_or, Bool.and_eq_false_iff, decide_eq_false_iff_not]
  omega
theorem step_keep (k : Nat) : Step m h w m (h.keep k) w :=
  ⟨rfl, rfl, rfl, Nat.le_refl _, fun _ cc _ _ hb _ => ⟨cc, hb, rfl⟩, fun _ _ hf => ⟨rfl, hf⟩, fun _ _ _ hc hn => ⟨hc, hn⟩, fun _ hu => used_keep hu, fun _ x _ hg => ⟨x, hg, fun _ => rfl, Compat.refl x⟩⟩
theorem HR.keep (hr : HR m h w) (k : Nat) : HR m (h.keep k) w :=
  ⟨fun id hg => by
      simp only [AHeap.keep, Bool.or_eq_true, Bool.and_eq_true, decide_eq_true_eq] at hg ⊢
      rcases hg with hg | hg
      · have := hr.gapl id hg; omega
      · exact hg.2,
    fun id x hg => used_keep (hr.live id x hg), hr.inj, fun id x hg => (hr.obj id x hg).step (step_keep k) rfl fun _ _ _ => rfl⟩
theorem Cvt.keep (k : Nat) : Cvt e h e (h.keep k) := fun _ m _ _ hr he => ⟨m, hr.keep k, he.step (step_keep k), step_keep k⟩

theorem FX.ofN {nm : Nat} {d : Option Nat} {i : Ins} {g : Option (Nat × Bool)} {r : Option AV} {f : Eff} (hp : i.plain = true) (hg : met e g)
    (hx : ∀ (o : Oper), compileOp P N o = some i → ∀ e2, (∀ s ∈ islots i, lk s e2 = lk s e) → ∀ (m : Inj) (w : World) (a : Act), HR m h w → ER N m h w e2 a → OpOK P o a m h w nm r f) : FX P N ⟨d, i, g⟩ e h r (f.on nm h) := by
  intro ops j o ho hc e2 hs m w a K Q hr he hk
  have hraw := comp_plain hc hp
  rcases compI_ok hc with ⟨hb1, hb2⟩ | ⟨hd, hdst, _, hgd⟩
  · have hb : i = .bad := hb1
    subst hb; cases hp
  · obtain ⟨w1, w2⟩ := wanted_of he hgd
    have hi : ∀ s ∈ islots i, lk s e2 = lk s e := fun s h => hs s (by unfold cslots; split <;> simp [h])
    have hw : Region.wanted o (yielded ops a.tmps) = true := by
      cases g with
      | none => exact w1 rfl
      | some sb =>
        obtain ⟨s, b⟩ := sb
        have hl : lk s e2 = some (.bool b) := (hs s (by simp [cslots])).trans hg
        rw [w2 s b b rfl hl]; simp
    simp only [wpOp, ho]
    rw [if_pos hw]
    left
    obtain ⟨m', w', hr', st, hres⟩ := hx o hraw e2 hi m w a hr he
    have hd' : d = o.dst := hd
    unfold Oper.wp
    cases r with
    | some v =>
      obtain ⟨cv, hrun, hv⟩ := hres
      rw [hrun, Oper.upon_value]
      refine hk m' w' _ hr' ?_ st
      show ER N m' _ w' (putR d (some v) e2) _
      rw [hd']
      exact (he.step st).putR hdst hv
    | none =>
      rw [hres, Oper.upon_skip]
      refine hk m' w' _ hr' ?_ st
      show ER N m' _ w' (putR d none e2) _
      rw [hd']
      exact (he.step st).skipR _ _

theorem FX.allocN {d : Nat} {z : List AV} {g : Option (Nat × Bool)} {nm : Nat} (hf : ¬ h.used nm) (hg : met e g) : FX P N ⟨some d, .alloc z, g⟩ e h (some (.ptr nm 0 0)) (h.put nm (.mem z.length [z])) :=
  FX.ofN (r := some (.ptr nm 0 0)) (f := .new (.mem z.length [z])) rfl hg fun o hc e2 _ m w a hr he => evalI_ok hr hf he hc (by simp [evalI])

inductive Up
  | put (nm : Nat) (x : AObj)
  | set (id : Nat) (x : Option AObj)
def Up.ap (h : AHeap) : Up → AHeap
  | .put nm x => h.put nm x
  | .set id x => h.set id x
def Up.id : Up → Nat
  | .put nm _ => nm
  | .set id _ => id
def Up.isSet : Up → Bool
  | .put _ _ => false
  | .set _ _ => true
def aps (h : AHeap) (us : List Up) : AHeap := us.foldl Up.ap h
theorem aps_cons {h : AHeap} {u : Up} {us : List Up} : aps h (u :: us) = aps (u.ap h) us := rfl

theorem put_next {h : AHeap} {nm : Nat} {x : AObj} : (h.put nm x).next = if nm < h.next then h.next else nm + 1 := rfl
theorem next_ap {h : AHeap} (u : Up) : h.next ≤ (u.ap h).next := by
  cases u with
  | put nm x => simp only [Up.ap, AHeap.put]; split <;> omega
  | set id x => exact Nat.le_refl _
theorem next_aps : ∀ {h : AHeap} (us : List Up), h.next ≤ (aps h us).next
  | h, [] => Nat.le_refl _
  | h, u :: us => Nat.le_trans (next_ap u) (next_aps us)
/-- Two heaps that read alike but for the kept names. -/
def Sim (n k : Nat) (h h2 : AHeap) : Prop := h2.next = h.next ∧ ∀ id, ¬ (n ≤ id ∧ id < n + k) → h2.get id = h.get id
theorem Sim.refl {n k : Nat} {h : AHeap} : Sim n k h h := ⟨rfl, fun _ _ => rfl⟩
theorem Sim.ap {n k : Nat} {h h2 : AHeap} (hs : Sim n k h h2) (u : Up) : Sim n k (u.ap h) (u.ap h2) := by
  obtain ⟨h1, h3⟩ := hs
  cases u with
  | put nm x => exact ⟨by simp only [Up.ap, AHeap.put, h1], fun id hi => by simp only [Up.ap, AHeap.put]; split <;> first | rfl | exact h3 id hi⟩
  | set nm x => exact ⟨h1, fun id hi => by simp only [Up.ap, AHeap.set]; split <;> first | rfl | exact h3 id hi⟩
theorem Sim.aps {n k : Nat} : ∀ {h h2 : AHeap} (us : List Up), Sim n k h h2 → Sim n k (aps h us) (aps h2 us)
  | _, _, [], hs => hs
  | _, _, u :: us, hs => Sim.aps us (hs.ap u)
theorem Sim.trans {n k : Nat} {h1 h2 h3 : AHeap} (a : Sim n k h1 h2) (b : Sim n k h2 h3) : Sim n k h1 h3 :=
  ⟨b.1.trans a.1, fun id hi => (b.2 id hi).trans (a.2 id hi)⟩
theorem Sim.symm {n k : Nat} {h1 h2 : AHeap} (a : Sim n k h1 h2) : Sim n k h2 h1 := ⟨a.1.symm, fun id hi => (a.2 id hi).symm⟩
theorem Sim.kept {n k a : Nat} {h : AHeap} {x : AObj} (ha : n ≤ a ∧ a < n + k) (hn : n + k ≤ h.next) : Sim n k h (h.put a x) := by
  refine ⟨?_, fun id hi => ?_⟩
  · simp only [AHeap.put]; rw [if_pos (by omega)]
  · simp only [AHeap.put]; rw [if_neg (by intro e; subst e; exact hi ha)]
theorem put_ap {a : Nat} {x : AObj} {u : Up} {h : AHeap} (hne : u.id ≠ a) (hn : a < h.next) : u.ap (h.put a x) = (u.ap h).put a x := by
  cases u with
  | put nm y =>
    have hne : nm ≠ a := hne
    have h1 := next_ap (h := h) (.put nm y)
    refine heap_ext (fun j => ?_) ?_ fun j => ?_
    · simp only [Up.ap, AHeap.put]; split <;> split <;> first | rfl | omega
    · simp only [Up.ap, put_next]
      repeat' split
      all_goals omega
    · simp only [Up.ap, AHeap.put]; split <;> split <;> first | rfl | omega
  | set nm y =>
    have hne : nm ≠ a := hne
    refine heap_ext (fun j => ?_) rfl fun j => rfl
    simp only [Up.ap, AHeap.put, AHeap.set]; split <;> split <;> first | rfl | omega
theorem put_aps {a : Nat} {x : AObj} : ∀ {us : List Up} {h : AHeap}, (∀ u ∈ us, u.id ≠ a) → a < h.next → aps (h.put a x) us = (aps h us).put a x
  | [], h, _, _ => rfl
  | u :: us, h, hu, hn => by
    rw [aps_cons, aps_cons, put_ap (hu u (by simp)) hn]
    exact put_aps (fun v hv => hu v (by simp [hv])) (Nat.lt_of_lt_of_le hn (next_ap u))
theorem gap_aps {a : Nat} : ∀ {us : List Up} {h : AHeap}, (∀ u ∈ us, u.isSet = true ∨ u.id ≠ a) → h.gap a = true → (aps h us).gap a = true
  | [], h, _, hg => hg
  | u :: us, h, hu, hg => by
    rw [aps_cons]
    refine gap_aps (us := us) (fun v hv => hu v (by simp [hv])) ?_
    have hne := hu u (by simp)
    cases u with
    | put nm y =>
      have hne : nm ≠ a := by
        rcases hne with h1 | h1
        · cases h1
        · exact h1
      simp only [Up.ap, AHeap.put]; rw [if_neg (Ne.symm hne)]; exact hg
    | set nm y => exact hg

/-- What is done to the heap when just D is done. -/
def hA (us : Nat → List Up) (h : AHeap) (D : Nat → Bool) : Nat → AHeap
  | 0 => h
  | j + 1 => if D j then aps (hA us h D j) (us j) else hA us h D j
theorem hA_le {us : Nat → List Up} {D : Nat → Bool} : ∀ n, h.next ≤ (hA us h D n).next
  | 0 => Nat.le_refl _
  | n + 1 => by
    simp only [hA]; split
    · exact Nat.le_trans (hA_le n) (next_aps _)
    · exact hA_le n
theorem hA_phi {us : Nat → List Up} {D : Nat → Bool} {Φ : AHeap → Prop} (h0 : Φ h) {n : Nat} (hp : ∀ j, j < n → ∀ h2, Φ h2 → Φ (aps h2 (us j))) : ∀ i, i ≤ n → Φ (hA us h D i)
  | 0, _ => h0
  | i + 1, hi => by
    simp only [hA]; split
    · exact hp i (by omega) _ (hA_phi h0 hp i (by omega))
    · exact hA_phi h0 hp i (by omega)
theorem hA_stop {us : Nat → List Up} {D : Nat → Bool} {i : Nat} : ∀ n, i ≤ n → (∀ k, i ≤ k → k < n → D k = true → us k = []) → hA us h D n = hA us h D i
  | 0, hi, _ => by have : i = 0 := by omega
                   subst this; rfl
  | n + 1, hi, hk => by
    rcases Nat.eq_or_lt_of_le hi with rfl | hlt
    · rfl
    · rw [← hA_stop n (by omega) fun k h1 h2 => hk k h1 (by omega)]
      simp only [hA]
      split
      · rename_i hd
        rw [hk n (by omega) (by omega) hd]; rfl
      · rfl
theorem hA_text {us : Nat → List Up} {D D' : Nat → Bool} : ∀ i, (∀ k, k < i → us k ≠ [] → D k = D' k) → hA us h D i = hA us h D' i
  | 0, _ => rfl
  | i + 1, hk => by
    simp only [hA]
    rw [hA_text i fun k h1 => hk k (by omega)]
    by_cases he : us i = []
    · rw [he]; split <;> split <;> rfl
    · rw [hk i (by omega) he]
theorem hA_ins {us : Nat → List Up} {D D' : Nat → Bool} {i m : Nat} (hm : m ≤ h.next) (hi : D i = false) (hD : ∀ k, D' k = if k = i then true else D k) : ∀ n, i < n → (∀ k, i < k → k < n → D k = true → ∀ h2 : AHeap, m ≤ h2.next → aps (aps h2 (us i)) (us k) = aps (aps h2 (us k)) (us i)) → hA us h D' n = aps (hA us h D n) (us i)
  | 0, hlt, _ => by omega
  | n + 1, hlt, hc => by
    by_cases e : n = i
    · subst e
      have h1 : hA us h D' n = hA us h D n := hA_text n fun k hk _ => by rw [hD, if_neg (by omega)]
      simp only [hA]
      rw [hD, if_pos rfl, if_pos rfl, hi, h1]; rfl
    · have ih := hA_ins hm hi hD n (by omega) fun k h1 h2 => hc k h1 (by omega)
      simp only [hA]
      rw [hD, if_neg e, ih]
      split
      · rename_i hd
        exact hc n (by omega) (by omega) hd _ (Nat.le_trans hm (hA_le n))
      · rfl
theorem hA_gap {us : Nat → List Up} {D : Nat → Bool} {a : Nat} (h0 : h.gap a = true) {n : Nat} (hk : ∀ k, k < n → D k = true → ∀ u ∈ us k, u.isSet = true ∨ u.id ≠ a) : ∀ i, i ≤ n → (hA us h D i).gap a = true
  | 0, _ => h0
  | i + 1, hi => by
    simp only [hA]; split
    · rename_i hd
      exact gap_aps (hk i (by omega) hd) (hA_gap h0 hk i (by omega))
    · exact hA_gap h0 hk i (by omega)
theorem hA_sim {us : Nat → List Up} {D D' : Nat → Bool} {n k : Nat} (hn : n + k ≤ h.next) : ∀ i, (∀ j, j < i → us j = [] ∨ D j = D' j ∨ ∃ a x, (n ≤ a ∧ a < n + k) ∧ us j = [.put a x]) → Sim n k (hA us h D i) (hA us h D' i)
  | 0, _ => Sim.refl
  | i + 1, hj => by
    have ih := hA_sim hn i fun j h1 => hj j (by omega)
    have l1 := hA_le (h := h) (us := us) (D := D) i
    have l2 := hA_le (h := h) (us := us) (D := D') i
    simp only [hA]
    rcases hj i (by omega) with h1 | h1 | ⟨a, x, ha, h1⟩
    · rw [h1]; split <;> split <;> exact ih
    · rw [h1]; split
      · exact ih.aps _
      · exact ih
    · rw [h1]
      have s1 : Sim n k (hA us h D i) (aps (hA us h D i) [.put a x]) := Sim.kept ha (by omega)
      have s2 : Sim n k (hA us h D' i) (aps (hA us h D' i) [.put a x]) := Sim.kept ha (by omega)
      split <;> split
      · exact (s1.symm.trans ih).trans s2
      · exact s1.symm.trans ih
      · exact ih.trans s2
      · exact ih

end
end Go.Abs

namespace Go.Abs
open Go

def heapA (l : List CI) (fs al : List Nat) (j : Nat) : Bool := !(free0 (l.getD j default).i || fs.contains j || al.contains j)
def touchA (l : List CI) (al ws rs fs : List Nat) (i j : Nat) : Bool :=
  (cslots (l.getD j default)).any (dslot (l.getD i default)) || (cslots (l.getD i default)).any (dslot (l.getD j default)) ||
  ((l.getD i default).d.isSome && (l.getD i default).d == (l.getD j default).d) ||
  ((ws.contains i || ws.contains j) && heapA l fs al i && heapA l fs al j) ||
  (al.contains i && heapA l fs al j && !rs.contains j) || (al.contains j && heapA l fs al i && !rs.contains i)
def chkA (l : List CI) (es : List (List Nat)) (al ws rs fs : List Nat) : Bool :=
  es.length == l.length && (List.range l.length).all fun j => (es.getD j []).all (fun k => k < j) && (List.range j).all fun i => !touchA l al ws rs fs i j || ((ancs es []).getD j 0).testBit i

/-- The text's order, walked: al = new blocks whose names (n0 on) are kept; ws = what else turns the heap; rs = those of them that don't look at al's; fs = what reads alike wherever it is drawn. -/
inductive DA (P : Program) (N : Nat) (Φ : AHeap → Prop) (n0 : Nat) (al ws rs fs : List Nat) (K : Env → AHeap → Prop) : Nat → List CI → Env → AHeap → Prop
  | nil {j : Nat} {e e' : Env} {h : AHeap} (hs : subE e' e) (hk : K e' h) : DA P N Φ n0 al ws rs fs K j [] e h
  | fx {j : Nat} {c : CI} {l : List CI} {e : Env} {h : AHeap} {r : Option AV} (us : List Up) (hx : al.contains j = false → FX P N c e h r (aps h us)) (h0 : free0 c.i = true → al.contains j = true ∨ us = [] ∧ ∀ h2, FX P N c e h2 r h2)
      (hw : ws.contains j = false → al.contains j = false → us = []) (ha : al.contains j = true → ∃ x, us = [.put (n0 + al.idxOf j) x] ∧ ∀ h2 : AHeap, ¬ h2.used (n0 + al.idxOf j) → FX P N c e h2 r (aps h2 us))
      (hrs : rs.contains j = true → ∀ h2, Sim n0 al.length h h2 → FX P N c e h2 r (aps h2 us)) (hu : al.contains j = false → (∀ u ∈ us, u.isSet = true ∨ ¬ (n0 ≤ u.id ∧ u.id < n0 + al.length)) ∧ (rs.contains j = true → ∀ u ∈ us, ¬ (n0 ≤ u.id ∧ u.id < n0 + al.length)))
      (hp : ∀ h2, Φ h2 → Φ (aps h2 us)) (hf : fs.contains j = true → us = [] ∧ ∀ h2, Φ h2 → FX P N c e h2 r h2)
      (k : DA P N Φ n0 al ws rs fs K (j + 1) l (putR c.d r e) (aps h us)) : DA P N Φ n0 al ws rs fs K j (c :: l) e h

section
variable {P : Program} {N : Nat} {e : Env} {h : AHeap} {Φ : AHeap → Prop} {n0 : Nat} {al ws rs fs : List Nat} {K : Env → AHeap → Prop} {l : List CI} {es : List (List Nat)}

structure TrA (P : Program) (N : Nat) (Φ : AHeap → Prop) (n0 : Nat) (al ws rs fs : List Nat) (c : Nat → CI) (ee : Nat → Env) (hh : Nat → AHeap) (rr : Nat → Option AV) (us : Nat → List Up) (j : Nat) : Prop where
  fx : al.contains j = false → FX P N (c j) (ee j) (hh j) (rr j) (aps (hh j) (us j))
  zero : free0 (c j).i = true → al.contains j = true ∨ us j = [] ∧ ∀ h2, FX P N (c j) (ee j) h2 (rr j) h2
  keep : ws.contains j = false → al.contains j = false → us j = []
  new : al.contains j = true → ∃ x, us j = [.put (n0 + al.idxOf j) x] ∧ ∀ h2 : AHeap, ¬ h2.used (n0 + al.idxOf j) → FX P N (c j) (ee j) h2 (rr j) (aps h2 (us j))
  rob : rs.contains j = true → ∀ h2, Sim n0 al.length (hh j) h2 → FX P N (c j) (ee j) h2 (rr j) (aps h2 (us j))
  ids : al.contains j = false → (∀ u ∈ us j, u.isSet = true ∨ ¬ (n0 ≤ u.id ∧ u.id < n0 + al.length)) ∧ (rs.contains j = true → ∀ u ∈ us j, ¬ (n0 ≤ u.id ∧ u.id < n0 + al.length))
  phi : ∀ h2, Φ h2 → Φ (aps h2 (us j))
  free : fs.contains j = true → us j = [] ∧ ∀ h2, Φ h2 → FX P N (c j) (ee j) h2 (rr j) h2
  env : ee (j + 1) = putR (c j).d (rr j) (ee j)
  heap : hh (j + 1) = aps (hh j) (us j)

theorem DA.trace : ∀ {j : Nat} {l : List CI} {e : Env} {h : AHeap}, DA P N Φ n0 al ws rs fs K j l e h →
    ∃ (ee : Nat → Env) (hh : Nat → AHeap) (rr : Nat → Option AV) (us : Nat → List Up), ee j = e ∧ hh j = h ∧ (∃ e', subE e' (ee (j + l.length)) ∧ K e' (hh (j + l.length))) ∧ ∀ i, j ≤ i → i < j + l.length → TrA P N Φ n0 al ws rs fs (fun k => l.getD (k - j) default) ee hh rr us i := by
  intro j l e h hd
  induction hd with
  | nil hs hk => exact ⟨fun _ => _, fun _ => _, fun _ => none, fun _ => [], rfl, rfl, ⟨_, hs, hk⟩, fun i h1 h2 => by simp at h2; omega⟩
  | @fx j c l e h r u hx h0 hw ha hrs hu hp hf k ih =>
    obtain ⟨ee, hh, rr, us, q1, q2, q3, q4⟩ := ih
    refine ⟨fun i => if i = j then e else ee i, fun i => if i = j then h else hh i, fun i => if i = j then r else rr i, fun i => if i = j then u else us i, by simp, by simp, ?_, fun i h1 h2 => ?_⟩
    · have hne : ¬ (j + 1 + l.length = j) := by omega
      have : j + (c :: l).length = j + 1 + l.length := by simp; omega
      simp only [this, hne, if_false]
      exact q3
    · rcases Nat.eq_or_lt_of_le h1 with rfl | hlt
      · have e1 : ((c :: l).getD (j - j) default) = c := by simp
        have e2 : ¬ (j + 1 = j) := by omega
        exact {
          fx := by simp only [e1, if_true]; exact hx
          zero := by simp only [e1, if_true]; exact h0
          keep := by simp only [if_true]; exact hw
          new := by simp only [e1, if_true]; exact ha
          rob := by simp only [e1, if_true]; exact hrs
          ids := by simp only [if_true]; exact hu
          phi := by simp only [if_true]; exact hp
          free := by simp only [e1, if_true]; exact hf
          env := by simp only [e1, e2, if_false, if_true, q1]
          heap := by simp only [e2, if_false, if_true, q2] }
      · have t := q4 i hlt (by simp at h2; omega)
        have e1 : ((c :: l).getD (i - j) default) = l.getD (i - (j + 1)) default := by
          have : i - j = (i - (j + 1)) + 1 := by omega
          rw [this]; simp
        have e2 : ¬ (i + 1 = j) := by omega
        have e3 : ¬ (i = j) := by omega
        exact {
          fx := by simpa only [e1, e3, if_false] using t.fx
          zero := by simpa only [e1, e3, if_false] using t.zero
          keep := by simpa only [e3, if_false] using t.keep
          new := by simpa only [e1, e3, if_false] using t.new
          rob := by simpa only [e1, e3, if_false] using t.rob
          ids := by simpa only [e3, if_false] using t.ids
          phi := by simpa only [e3, if_false] using t.phi
          free := by simpa only [e1, e3, if_false] using t.free
          env := by simpa only [e1, e2, e3, if_false] using t.env
          heap := by simpa only [e2, e3, if_false] using t.heap }

theorem AW.dregA {Q : Exit → Env → AHeap → Prop} (hm : P.follows .mixedOrders = true) (hc : chkA l es al ws rs fs = true) (hn0 : n0 + al.length ≤ h.next) (hgap : ∀ id, n0 ≤ id → id < n0 + al.length → h.gap id = true) (hphi : Φ h) (hd : DA P N Φ n0 al ws rs fs (fun e h => Q .normal e h) 0 l e h) : AW P N (.dreg l es) Q e h := by
  intro code hcode m w a hr he
  cases code <;> simp only [compC] at hcode <;> try (cases hcode; done)
  · rename_i id ops dr
    split at hcode
    · rename_i hdr
      subst hdr
      injection hcode with hl hes
      refine wp_region_any hm ?_
      obtain ⟨ee, hh, rr, us, q1, q2, q3, q4⟩ := hd.trace
      simp only [Nat.zero_add] at q3 q4
      have hn : ops.size = l.length := by rw [← hl]; simp [compR]
      -- the checks
      simp only [chkA, Bool.and_eq_true, List.all_eq_true, List.mem_range, beq_iff_eq, decide_eq_true_eq] at hc
      obtain ⟨hlen, hchk⟩ := hc
      have hback : ∀ j, j < l.length → ∀ k ∈ es.getD j [], k < j := fun j hj k hk => by simpa using (hchk j hj).1 k hk
      have htouch : ∀ i j, i < j → j < l.length → touchA l al ws rs fs i j = true → Reach es i j := fun i j hij hj ht => by
        have := (hchk j hj).2 i hij
        rw [ht] at this
        exact ancs_ok es es [] rfl (fun j i hb => by simp at hb) j i (by simpa using this)
      have hes' : ∀ j (hj : j < ops.size), es.getD j [] = ((ops[j]).after.toList.filter (Region.binds .any)).map (·.on) := fun j hj => by
        rw [← hes]; simp [edgesR, List.getD_eq_getElem?_getD, hj]
      have hci : ∀ j (hj : j < ops.size), compI P N ops (ops[j]) = l.getD j default := fun j hj => by
        rw [← hl]; simp [compR, List.getD_eq_getElem?_getD, hj]
      have henv : ∀ j, j < l.length → ee (j + 1) = putR (l.getD j default).d (rr j) (ee j) := fun j hj => (q4 j (Nat.zero_le _) hj).env
      have hhT : ∀ i, i ≤ l.length → hh i = hA us h (fun _ => true) i := fun i => by
        induction i with
        | zero => intro _; exact q2
        | succ i ih => intro hi; rw [(q4 i (Nat.zero_le _) (by omega)).heap, ih (by omega)]; rfl
      obtain ⟨ez, q3s, q3⟩ := q3
      obtain ⟨c, hcc'⟩ : ∃ c : Nat → CI, ∀ k, l.getD k default = c k := ⟨_, fun _ => rfl⟩
      have ecc : (fun k => l.getD (k - 0) default) = c := funext fun k => by rw [Nat.sub_zero, hcc']
      rw [ecc] at q4
      simp only [hcc'] at henv hci
      -- the induction
      suffices H : ∀ (fuel : Nat) (listed : Array Bool) (U : List Nat) (m1 : Inj) (w1 : World) (a1 : Act), listed.size = l.length → U.length ≤ fuel → U.Nodup → (∀ j, j < l.length → (listed.getD j false = false ↔ j ∈ U)) →
          (∀ j, listed.getD j false = true → ∀ k ∈ es.getD j [], listed.getD k false = true) →
          HR m1 (hA us h (fun j => listed.getD j false) l.length) w1 → ER N m1 (hA us h (fun j => listed.getD j false) l.length) w1 (eD c rr e (fun j => listed.getD j false) l.length) a1 →
          Step m h w m1 (hA us h (fun j => listed.getD j false) l.length) w1 → wpAny P .any ops (PA N Q m h w) fuel listed a1 w1 by
        have st := step_drew (m := m) (h := h) (w := w)
        refine H ops.size (Array.replicate ops.size false) (List.range l.length) m { w with drawn := w.drawn + 1 } a (by simp [hn]) (by simp [hn]) List.nodup_range (fun j hj => by simp [List.getD, hn, hj]) (fun j hj => ?_) ?_ ?_ ?_
        · rw [rep_false] at hj; cases hj
        all_goals
          have e1 : hA us h (fun j => (Array.replicate ops.size false).getD j false) l.length = h := hA_stop (i := 0) l.length (Nat.zero_le _) fun k _ _ hd => by rw [rep_false] at hd; cases hd
        · rw [e1]; exact hr.drew
        · rw [e1]
          have e2 : ∀ s, lk s (eD c rr e (fun j => (Array.replicate ops.size false).getD j false) l.length) = lk s e := fun s => eD_stop (i := 0) l.length (Nat.zero_le _) fun k _ _ _ => rep_false _ _
          have he' := he.step st
          exact ⟨he'.size, he'.defers, fun i v hv => he'.val i v (by rw [← e2]; exact hv)⟩
        · rw [e1]; exact st
      intro fuel
      -- all is done
      have fin : ∀ (listed : Array Bool) (m1 : Inj) (w1 : World) (a1 : Act), listed.size = l.length → Region.ready .any ops listed = [] →
          HR m1 (hA us h (fun j => listed.getD j false) l.length) w1 → ER N m1 (hA us h (fun j => listed.getD j false) l.length) w1 (eD c rr e (fun j => listed.getD j false) l.length) a1 →
          Step m h w m1 (hA us h (fun j => listed.getD j false) l.length) w1 → PA N Q m h w .normal a1 w1 := fun listed m1 w1 a1 hsz hrd h1 h2 h3 => by
        have hall : ∀ j, j < l.length → listed.getD j false = true := fun j => by
          induction j using Nat.strongRecOn with
          | ind j ih =>
            intro hj
            cases hx : listed.getD j false
            · have : j ∈ Region.ready .any ops listed := mem_ready.2 ⟨by simpa [Array.getD_eq_getD_getElem?, hsz, hj] using hx, ops[j]'(by omega), by simp [hn, hj], fun ed hed hb => ?_⟩
              · rw [hrd] at this; cases this
              · have hk : ed.on ∈ es.getD j [] := by
                  rw [hes' j (by omega)]
                  exact List.mem_map.2 ⟨ed, List.mem_filter.2 ⟨by simpa using hed, hb⟩, rfl⟩
                have := hback j hj _ hk
                exact ih _ this (by omega)
            · rfl
        have e1 : hA us h (fun j => listed.getD j false) l.length = hh l.length := by rw [hhT _ (Nat.le_refl _)]; exact hA_text l.length fun k hk _ => hall k hk
        have e2 : ∀ s, lk s (eD c rr e (fun j => listed.getD j false) l.length) = lk s (ee l.length) := fun s => eD_text q1 henv l.length (Nat.le_refl _) fun k hk _ => hall k hk
        rw [e1] at h1 h2 h3
        exact ⟨m1, ez, hh l.length, h1, ⟨h2.size, h2.defers, fun i v hv => h2.val i v (by rw [e2]; exact q3s i v hv)⟩, h3, q3⟩
      induction fuel with
      | zero =>
        intro listed U m1 w1 a1 hsz hU hnd hmem hcl h1 h2 h3
        have hU0 : U = [] := List.length_eq_zero_iff.1 (by omega)
        subst hU0
        have hrd : Region.ready .any ops listed = [] := List.eq_nil_iff_forall_not_mem.2 fun j hj => by
          obtain ⟨g0, o, g1, _⟩ := mem_ready.1 hj
          have hj' : j < l.length := by rw [← hn]; exact (Array.getElem?_eq_some_iff.1 g1).1
          have := (hmem j hj').1 (by simpa [Array.getD_eq_getD_getElem?, hsz, hj'] using g0)
          cases this
        exact ⟨hrd, fin listed m1 w1 a1 hsz hrd h1 h2 h3⟩
      | succ fuel ih =>
        intro listed U m1 w1 a1 hsz hU hnd hmem hcl h1 h2 h3
        refine ⟨fun hrd => fin listed m1 w1 a1 hsz hrd h1 h2 h3, fun i hi => ?_⟩
        obtain ⟨g0, o, g1, g2⟩ := mem_ready.1 hi
        have hi' : i < l.length := by rw [← hn]; exact (Array.getElem?_eq_some_iff.1 g1).1
        have hio : i < ops.size := by omega
        have ho : ops[i] = o := (Array.getElem?_eq_some_iff.1 g1).2
        have hDi : listed.getD i false = false := by simpa [Array.getD_eq_getD_getElem?, hsz, hi'] using g0
        have hpre : ∀ k ∈ es.getD i [], listed.getD k false = true := fun k hk => by
          rw [hes' i hio, ho] at hk
          obtain ⟨ed, hed, rfl⟩ := List.mem_map.1 hk
          obtain ⟨he1, he2⟩ := List.mem_filter.1 hed
          exact g2 ed (by simpa using he1) he2
        -- ahead: done; behind: not done
        have ahead : ∀ k, k < i → touchA l al ws rs fs k i = true → listed.getD k false = true := fun k hk ht => (htouch k i hk hi' ht).done (D := fun j => listed.getD j false) hcl hpre
        have behind : ∀ k, i < k → k < l.length → touchA l al ws rs fs i k = true → listed.getD k false = false := fun k hk hkl ht => by
          cases hx : listed.getD k false
          · rfl
          · have := (htouch i k hk hkl ht).done (D := fun j => listed.getD j false) hcl (hcl k hx)
            rw [hDi] at this; cases this
        have t := q4 i (Nat.zero_le _) hi'
        -- the slots
        have hsl : ∀ s ∈ cslots (c i), lk s (eD c rr e (fun j => listed.getD j false) l.length) = lk s (ee i) := fun s hs => by
          rw [eD_stop (i := i) l.length (by omega) fun k hk1 hk2 hkd => ?_]
          · exact eD_text q1 henv i (by omega) fun k hk1 hkd => ahead k hk1 (by
              simp only [touchA, hcc', Bool.or_eq_true]
              refine .inl (.inl ?_)
              exact .inl (.inl (.inl (List.any_eq_true.2 ⟨s, hs, by simp [dslot, hkd]⟩))))
          · rcases Nat.eq_or_lt_of_le hk1 with rfl | hlt
            · exact hDi
            · exact behind k hlt hk2 (by
                simp only [touchA, hcc', Bool.or_eq_true]
                refine .inl (.inl ?_)
                exact .inl (.inl (.inr (List.any_eq_true.2 ⟨s, hs, by simp [dslot, hkd]⟩))))
        -- what turns the heap
        have hus : ∀ k, k < l.length → us k ≠ [] → al.contains k = false → ws.contains k = true ∧ heapA l fs al k = true := fun k hk hne ha => by
          have tk := q4 k (Nat.zero_le _) hk
          refine ⟨?_, ?_⟩
          · cases hw : ws.contains k
            · exact absurd (tk.keep hw ha) hne
            · rfl
          · cases hf0 : free0 (c k).i
            · cases hff : fs.contains k
              · unfold heapA; rw [hcc', hf0, hff, ha]; rfl
              · exact absurd (tk.free hff).1 hne
            · rcases tk.zero hf0 with h1 | h1
              · rw [ha] at h1; cases h1
              · exact absurd h1.1 hne
        have hname : ∀ k, al.contains k = true → n0 ≤ n0 + al.idxOf k ∧ n0 + al.idxOf k < n0 + al.length := fun k hk => ⟨Nat.le_add_right _ _, Nat.add_lt_add_left (List.idxOf_lt_length_of_mem (by simpa using hk)) _⟩
        have hinj : ∀ k k', al.contains k = true → al.contains k' = true → n0 + al.idxOf k = n0 + al.idxOf k' → k = k' := fun k k' h1 h2 h3 => by
          have a1 := List.getElem_idxOf (List.idxOf_lt_length_of_mem (by simpa using h1 : k ∈ al))
          have a2 := List.getElem_idxOf (List.idxOf_lt_length_of_mem (by simpa using h2 : k' ∈ al))
          have a3 : al.idxOf k = al.idxOf k' := by omega
          rw [← a1, ← a2]
          simp only [a3]
        have hcomm : ∀ k, i < k → k < l.length → listed.getD k false = true → ∀ h2 : AHeap, n0 + al.length ≤ h2.next → aps (aps h2 (us i)) (us k) = aps (aps h2 (us k)) (us i) := fun k hk hkl hdk h2 hn2 => by
          by_cases hie : us i = []
          · rw [hie]; rfl
          by_cases hke : us k = []
          · rw [hke]; rfl
          have tk := q4 k (Nat.zero_le _) hkl
          cases hai : al.contains i <;> cases hak : al.contains k
          · obtain ⟨w1, y1⟩ := hus i hi' hie hai
            obtain ⟨_, y2⟩ := hus k hkl hke hak
            have := behind k hk hkl (by
              simp only [touchA, w1, y1, y2, Bool.or_eq_true]
              exact .inl (.inl (.inr (by simp))))
            rw [this] at hdk; cases hdk
          · obtain ⟨x, hx, _⟩ := tk.new hak
            have hna := hname k hak
            obtain ⟨w1, y1⟩ := hus i hi' hie hai
            cases hri : rs.contains i
            · have := behind k hk hkl (by
                simp only [touchA, hak, y1, hri, Bool.or_eq_true]
                exact .inr (by simp))
              rw [this] at hdk; cases hdk
            · rw [hx]
              exact (put_aps (fun u hu e1 => (t.ids hai).2 hri u hu (by omega)) (by omega)).symm
          · obtain ⟨x, hx, _⟩ := t.new hai
            have hna := hname i hai
            obtain ⟨w1, y1⟩ := hus k hkl hke hak
            cases hrk : rs.contains k
            · have := behind k hk hkl (by
                simp only [touchA, hai, y1, hrk, Bool.or_eq_true]
                exact .inl (.inr (by simp)))
              rw [this] at hdk; cases hdk
            · rw [hx]
              exact put_aps (fun u hu e1 => (tk.ids hak).2 hrk u hu (by omega)) (by omega)
          · obtain ⟨x, hx, _⟩ := t.new hai
            obtain ⟨y, hy, _⟩ := tk.new hak
            have hna := hname i hai
            rw [hx, hy]
            exact put_ap (u := .put _ y) (fun e1 => absurd (hinj _ _ hak hai e1) (by omega)) (by omega)
        -- the heap, for what looks at it
        have hexact : heapA l fs al i = true → rs.contains i = false → hA us h (fun j => listed.getD j false) l.length = hh i := fun hy hri => by
          rw [hA_stop (i := i) l.length (by omega) fun k hk1 hk2 hkd => ?_, hhT i (by omega)]
          · refine hA_text i fun k hk1 hke => ahead k hk1 ?_
            cases hak : al.contains k
            · obtain ⟨w2, y2⟩ := hus k (by omega) hke hak
              simp only [touchA, w2, hy, y2, Bool.or_eq_true]
              exact .inl (.inl (.inr (by simp)))
            · simp only [touchA, hak, hy, hri, Bool.or_eq_true]
              exact .inl (.inr (by simp))
          · rcases Nat.eq_or_lt_of_le hk1 with rfl | hlt
            · rw [hDi] at hkd; cases hkd
            · refine Classical.byContradiction fun hke => ?_
              have := behind k hlt hk2 (by
                cases hak : al.contains k
                · obtain ⟨w2, y2⟩ := hus k (by omega) hke hak
                  simp only [touchA, w2, hy, y2, Bool.or_eq_true]
                  exact .inl (.inl (.inr (by simp)))
                · simp only [touchA, hak, hy, hri, Bool.or_eq_true]
                  exact .inr (by simp))
              rw [this] at hkd; cases hkd
        have hrobust : heapA l fs al i = true → Sim n0 al.length (hh i) (hA us h (fun j => listed.getD j false) l.length) := fun hy => by
          have e1 : hh i = hA us h (fun k => decide (k < i)) l.length := by
            rw [hhT i (by omega), hA_stop (i := i) (D := fun k => decide (k < i)) l.length (by omega) fun k hk1 _ hd => absurd (of_decide_eq_true hd) (by omega)]
            exact hA_text i fun k hk _ => by simp [hk]
          rw [e1]
          refine hA_sim hn0 l.length fun k hk => ?_
          by_cases hke : us k = []
          · exact .inl hke
          cases hak : al.contains k
          · refine .inr (.inl ?_)
            obtain ⟨w2, y2⟩ := hus k hk hke hak
            rcases Nat.lt_trichotomy k i with h1 | h1 | h1
            · rw [ahead k h1 (by
                simp only [touchA, w2, hy, y2, Bool.or_eq_true]
                exact .inl (.inl (.inr (by simp))))]
              simp [h1]
            · subst h1; rw [hDi]; simp
            · rw [behind k h1 hk (by
                simp only [touchA, w2, hy, y2, Bool.or_eq_true]
                exact .inl (.inl (.inr (by simp))))]
              simp; omega
          · obtain ⟨x, hx, _⟩ := (q4 k (Nat.zero_le _) hk).new hak
            exact .inr (.inr ⟨_, x, hname k hak, hx⟩)
        have hnew : ∀ k, (listed.setIfInBounds i true).getD k false = (if k = i then true else listed.getD k false) := fun k => by
          by_cases hk : k = i
          · subst hk; simp [hsz, hi']
          · rw [if_neg hk]; exact getD_set_ne false (Ne.symm hk)
        have hDn : (fun k => (listed.setIfInBounds i true).getD k false) = fun k => if k = i then true else listed.getD k false := funext hnew
        -- what holds behind it
        have go : ∀ h', hA us h (fun k => if k = i then true else listed.getD k false) l.length = h' → FX P N (c i) (ee i) (hA us h (fun j => listed.getD j false) l.length) (rr i) h' →
            wpOp P ops (PA N Q m h w) i (wpAny P .any ops (PA N Q m h w) fuel (listed.setIfInBounds i true)) a1 w1 := fun h' hh' hfx => by
          refine hfx ops i o g1 (by rw [← ho, hci i hio]) _ hsl m1 w1 a1 _ _ h1 h2 fun m2 w2 a2 r1 r2 r3 => ?_
          refine ih (listed.setIfInBounds i true) (U.erase i) m2 w2 a2 (by simp [hsz]) ?_ (hnd.erase i) (fun j hj => ?_) (fun j hj => ?_) ?_ ?_ ?_
          · rw [List.length_erase_of_mem ((hmem i hi').1 hDi)]; omega
          · rw [hnew, hnd.mem_erase_iff]
            by_cases hji : j = i
            · simp [hji]
            · simp [hji, ← hmem j hj]
          · intro k hk
            rw [hnew] at hj ⊢
            by_cases hki : k = i
            · simp [hki]
            · rw [if_neg hki]
              by_cases hji : j = i
              · subst hji; exact hpre k hk
              · rw [if_neg hji] at hj; exact hcl j hj k hk
          · rw [hDn, hh']; exact r1
          · rw [hDn, hh']
            refine ⟨r2.size, r2.defers, fun s v hv => r2.val s v ?_⟩
            rw [← hv]
            by_cases hds : (c i).d = some s
            · rw [hds, lk_putR_same]
              rw [eD_stop (i := i + 1) l.length (by omega) fun k hk1 hk2 hkd => ?_]
              · simp only [eD, if_true, hds, lk_putR_same]
              · have : ¬ k = i := by omega
                simp only [this, if_false]
                exact behind k (by omega) hk2 (by
                  simp only [touchA, hcc', Bool.or_eq_true]
                  refine .inl (.inl ?_)
                  exact .inl (.inr (by simp [hds, hkd])))
            · rw [lk_putR_ne hds]
              have key : ∀ n, lk s (eD c rr e (fun j => listed.getD j false) n) = lk s (eD c rr e (fun k => if k = i then true else listed.getD k false) n) := fun n => by
                induction n with
                | zero => rfl
                | succ n ihn =>
                  simp only [eD]
                  by_cases hni : n = i
                  · subst hni
                    simp only [if_true, hDi, Bool.false_eq_true, if_false]
                    rw [lk_putR_ne hds]; exact ihn
                  · simp only [hni, if_false]
                    split
                    · by_cases hdn : (c n).d = some s
                      · rw [hdn, lk_putR_same, lk_putR_same]
                      · rw [lk_putR_ne hdn, lk_putR_ne hdn]; exact ihn
                    · exact ihn
              exact key _
          · rw [hDn, hh']; exact h3.trans r3
        have hins : hA us h (fun k => if k = i then true else listed.getD k false) l.length = aps (hA us h (fun j => listed.getD j false) l.length) (us i) :=
          hA_ins hn0 hDi (fun _ => rfl) l.length hi' hcomm
        refine go _ hins ?_
        have hnew : al.contains i = true → FX P N (c i) (ee i) (hA us h (fun j => listed.getD j false) l.length) (rr i) (aps (hA us h (fun j => listed.getD j false) l.length) (us i)) := fun hai => by
          obtain ⟨x, _, hfx⟩ := t.new hai
          have hna := hname i hai
          refine hfx _ fun hu => ?_
          have := hA_gap (us := us) (D := fun j => listed.getD j false) (hgap _ hna.1 hna.2) (n := l.length) (fun k hk hdk u hu => by
            cases hak : al.contains k
            · rcases ((q4 k (Nat.zero_le _) hk).ids hak).1 u hu with h1 | h1
              · exact .inl h1
              · exact .inr fun e1 => h1 (by omega)
            · obtain ⟨y, hy, _⟩ := (q4 k (Nat.zero_le _) hk).new hak
              rw [hy, List.mem_singleton] at hu
              subst hu
              refine .inr fun e1 => ?_
              have := hinj _ _ hak hai e1
              subst this
              rw [hDi] at hdk; cases hdk) l.length (Nat.le_refl _)
          rw [hu.2] at this; cases this
        cases hf0 : free0 (c i).i
        · cases hff : fs.contains i
          · cases hai : al.contains i
            · have hy : heapA l fs al i = true := by unfold heapA; rw [hcc', hf0, hff, hai]; rfl
              cases hri : rs.contains i
              · rw [hexact hy hri]; exact t.fx hai
              · exact t.rob hri _ (hrobust hy)
            · exact hnew hai
          · rw [(t.free hff).1]
            exact (t.free hff).2 _ (hA_phi hphi (fun j hj => (q4 j (Nat.zero_le _) hj).phi) l.length (Nat.le_refl _))
        · rcases t.zero hf0 with hai | h1
          · exact hnew hai
          · rw [h1.1]
            exact h1.2 _
    · cases hcode
  · split at hcode <;> cases hcode
  · split at hcode <;> cases hcode
end
end Go.Abs

namespace Go.Abs
open Go

section
variable {P : Program} {N : Nat} {e e' e2 : Env} {h h' : AHeap} {Q : Exit → Env → AHeap → Prop} {l : List CI} {Φ : AHeap → Prop} {n0 : Nat} {al ws rs fs : List Nat} {K : Env → AHeap → Prop} {j : Nat}

theorem DA.env (hd : DA P N Φ n0 al ws rs fs K j l e2 h) : ∀ {e : Env}, (∀ s, lk s e2 = lk s e) → DA P N Φ n0 al ws rs fs K j l e h := by
  induction hd with
  | nil hs hk => exact fun he => .nil (fun i v hv => (he i) ▸ hs i v hv) hk
  | fx us hx h0 hw ha hr hu hp hf _ ih =>
    exact fun he => .fx us (fun hz => (hx hz).env he) (fun hz => (h0 hz).imp id fun h1 => ⟨h1.1, fun h2 => (h1.2 h2).env he⟩) hw (fun hz => by
      obtain ⟨x, h1, h2⟩ := ha hz
      exact ⟨x, h1, fun h3 h4 => (h2 h3 h4).env he⟩) (fun hz h2 h3 => (hr hz h2 h3).env he) hu hp (fun hz => ⟨(hf hz).1, fun h2 h3 => ((hf hz).2 h2 h3).env he⟩) (ih (lk_putR_congr he))
theorem DA.pin {s : Nat} {t : Bool} (hc : lk s e = some (.bool t)) (h1 : t = true → DA P N Φ n0 al ws rs fs K j l ((s, some (.bool true)) :: e) h) (h2 : t = false → DA P N Φ n0 al ws rs fs K j l ((s, some (.bool false)) :: e) h) : DA P N Φ n0 al ws rs fs K j l e h := by
  have key : ∀ b, t = b → ∀ i, lk i ((s, some (.bool b)) :: e) = lk i e := fun b hb i => by
    simp only [lk_cons, lk_nil]
    split
    · rename_i e1; subst e1; rw [hc, hb]
    · rfl
  cases t
  · exact (h2 rfl).env (key false rfl)
  · exact (h1 rfl).env (key true rfl)
theorem DA.endL (hk : K e h) : DA P N Φ n0 al ws rs fs K j [] e h := .nil (fun _ _ hv => hv) hk
/-- An operation that leaves the heap as it is. -/
theorem DA.go {c : CI} {e' : Env} (k : DA P N Φ n0 al ws rs fs K (j + 1) l e' h) (hs : Stp c e h e' h := by exact Stp.auto) (hf : fs.contains j = false := by exact rfl) (ha : al.contains j = false := by exact rfl) (hr : rs.contains j = false := by exact rfl) : DA P N Φ n0 al ws rs fs K j (c :: l) e h := by
  obtain ⟨r, he, hx, h0⟩ := FX.of_stp (P := P) (N := N) hs
  subst he
  exact .fx [] (fun _ => hx) (fun hz => .inr ⟨rfl, (h0 hz).2⟩) (fun _ _ => rfl) (fun hz => by rw [ha] at hz; cases hz) (fun hz => by rw [hr] at hz; cases hz) (fun _ => ⟨by simp, by simp⟩) (fun _ h2 => h2) (fun hz => by rw [hf] at hz; cases hz) k
/-- One that reads alike wherever it is drawn. -/
theorem DA.goF {c : CI} {n : Nat} {W : List Nat} {h0 : AHeap} (k : DA P N (PhiW n W h0) n0 al ws rs fs K (j + 1) l e' h) (hs : ∀ h2, PhiW n W h0 h2 → Stp c e h2 e' h2 := by
    intro h2 hp2
    first
      | (apply Stp.load1; exact rfl; exact (hp2 _ (by omega) (by simp)).trans gH; exact (by first | exact getC_at rfl rfl | exact getC_all rfl | exact getC_sub (Nat.le_of_ble_eq_true rfl) (by first | (simp only [putC, AV.cs, encP, encN, encI, encS, encA, List.take_succ_cons, List.take_zero, List.take_nil, List.drop_succ_cons, List.drop_zero, List.drop_nil, List.cons_append, List.nil_append, List.append_nil, List.length_cons, List.length_nil, Nat.zero_add, Nat.add_zero, Nat.reduceAdd]; exact rfl) | exact rfl) | exact getC_sub (by simp) (by first | (simp only [putC, AV.cs, encP, encN, encI, encS, encA, List.take_succ_cons, List.take_zero, List.take_nil, List.drop_succ_cons, List.drop_zero, List.drop_nil, List.cons_append, List.nil_append, List.append_nil, List.length_cons, List.length_nil, Nat.zero_add, Nat.add_zero, Nat.reduceAdd]; exact rfl) | exact rfl)); exact (by first | exact True.intro | exact rfl))
      | exact Stp.auto) (hp : PhiW n W h0 h := by repeat first | exact PhiW.refl | refine PhiW.put (by omega) ?_ | refine PhiW.setW (by simp) ?_ | refine PhiW.setN (by omega) ?_ | exact fun _ _ _ => rfl) (ha : al.contains j = false := by exact rfl) (hr : rs.contains j = false := by exact rfl) : DA P N (PhiW n W h0) n0 al ws rs fs K j (c :: l) e h := by
  have key : ∀ h2, PhiW n W h0 h2 → ∃ r, e' = putR c.d r e ∧ FX P N c e h2 r h2 ∧ (free0 c.i = true → h2 = h2 ∧ ∀ h3, FX P N c e h3 r h3) := fun h2 h3 => FX.of_stp (hs h2 h3)
  obtain ⟨r, he, hx, hz⟩ := key h hp
  subst he
  refine .fx [] (fun _ => hx) (fun hy => .inr ⟨rfl, (hz hy).2⟩) (fun _ _ => rfl) (fun hy => by rw [ha] at hy; cases hy) (fun hy => by rw [hr] at hy; cases hy) (fun _ => ⟨by simp, by simp⟩) (fun _ h2 => h2) (fun _ => ⟨rfl, fun h2 h3 => ?_⟩) k
  obtain ⟨r2, he2, hx2, _⟩ := key h2 h3
  cases hd : c.d with
  | none =>
    intro ops i o ho hc e3 hs3 m w a KK QQ hr2 he3 hk
    exact hx2 ops i o ho hc e3 hs3 m w a KK QQ hr2 he3 (by rw [hd] at hk ⊢; exact hk)
  | some d =>
    rw [hd] at he2
    simp only [putR, List.cons.injEq, Prod.mk.injEq, true_and, and_true] at he2
    rw [he2]; exact hx2
/-- A new block. -/
theorem DA.new {d : Nat} {z : List AV} {g : Option (Nat × Bool)} {i n : Nat} {W : List Nat} {h0 : AHeap} (k : DA P N (PhiW n W h0) n al ws rs fs K (j + 1) l ((d, some (.ptr (n + i) 0 0)) :: e) (h.put (n + i) (.mem z.length [z])))
    (hi : al.idxOf j = i := by first | exact (rfl : _ = 0) | exact (rfl : _ = 1) | exact (rfl : _ = 2) | exact (rfl : _ = 3) | exact (rfl : _ = 4)) (hg : met e g := by first | exact True.intro | exact rfl) (ha : al.contains j = true := by exact rfl) (hr : rs.contains j = false := by exact rfl) (hf : fs.contains j = false := by exact rfl) : DA P N (PhiW n W h0) n al ws rs fs K j (⟨some d, .alloc z, g⟩ :: l) e h := by
  subst hi
  exact .fx (r := some (.ptr (n + al.idxOf j) 0 0)) [.put (n + al.idxOf j) (.mem z.length [z])] (fun hz => by rw [ha] at hz; cases hz) (fun hz => by simp [free0] at hz) (fun _ hz => by rw [ha] at hz; cases hz) (fun _ => ⟨_, rfl, fun h2 hu => FX.allocN hu hg⟩) (fun hz => by rw [hr] at hz; cases hz)
    (fun hz => by rw [ha] at hz; cases hz) (fun h2 hp => PhiW.put (Nat.le_add_right _ _) hp) (fun hz => by rw [hf] at hz; cases hz) k
/-- A store, in its order. -/
theorem DA.set {c : CI} {n id : Nat} {W : List Nat} {h0 : AHeap} {x : Option AObj} (k : DA P N (PhiW n W h0) n0 al ws rs fs K (j + 1) l e' (h.set id x)) (hs : Stp c e h e' (h.set id x) := by exact Stp.auto) (hf : fs.contains j = false := by exact rfl) (hw : ws.contains j = true := by exact rfl) (ha : al.contains j = false := by exact rfl) (hr : rs.contains j = false := by exact rfl) (hz : free0 c.i = false := by exact rfl) (hp : ∀ h2, PhiW n W h0 h2 → PhiW n W h0 (h2.set id x) := by first | exact fun _ => PhiW.setN (by omega) | exact fun _ => PhiW.setW (by simp; done)) :
    DA P N (PhiW n W h0) n0 al ws rs fs K j (c :: l) e h := by
  obtain ⟨r, he, hx, _⟩ := FX.of_stp (P := P) (N := N) hs
  subst he
  exact .fx [.set id x] (fun _ => hx) (fun hy => by rw [hz] at hy; cases hy) (fun hy => by rw [hw] at hy; cases hy) (fun hy => by rw [ha] at hy; cases hy) (fun hy => by rw [hr] at hy; cases hy) (fun _ => ⟨by simp [Up.isSet], fun hy => by rw [hr] at hy; cases hy⟩) hp (fun hy => by rw [hf] at hy; cases hy) k
/-- A call that turns two objects and doesn't look at the new ones. -/
theorem DA.callSS {d : Option Nat} {f n i1 i2 : Nat} {x1 x2 : Option AObj} {W : List Nat} {h0 : AHeap} {xs : List Opd} {g : Option (Nat × Bool)} {vs us : List AV} {r : AV} (hv : evL e xs = some us) (hg : met e g) (hs : SubL us vs) (hf : fs.contains j = false) (hw : ws.contains j = true) (ha : al.contains j = false) (hp : ∀ h2, PhiW n W h0 h2 → PhiW n W h0 ((h2.set i1 x1).set i2 x2))
    (hn : i1 < n0 ∧ i2 < n0) (hac : ∀ h2, Sim n0 al.length h h2 → AE P f vs h2 r ((h2.set i1 x1).set i2 x2)) (k : DA P N (PhiW n W h0) n0 al ws rs fs K (j + 1) l (putR d (some r) e) ((h.set i1 x1).set i2 x2)) : DA P N (PhiW n W h0) n0 al ws rs fs K j (⟨d, .call f xs, g⟩ :: l) e h := by
  refine .fx [.set i1 x1, .set i2 x2] (fun _ => FX.call hg hv ((hac h Sim.refl).sub hs)) (fun hy => by simp [free0] at hy) (fun hy => by rw [hw] at hy; cases hy) (fun hy => by rw [ha] at hy; cases hy) (fun _ h2 h3 => FX.call hg hv ((hac h2 h3).sub hs)) (fun _ => ⟨by simp [Up.isSet], fun _ u hu => ?_⟩) hp (fun hy => by rw [hf] at hy; cases hy) k
  simp only [List.mem_cons, List.not_mem_nil, or_false] at hu
  rcases hu with rfl | rfl
  · show ¬ (n0 ≤ i1 ∧ _); omega
  · show ¬ (n0 ≤ i2 ∧ _); omega
theorem DA.callS {d : Option Nat} {f : Nat} {xs : List Opd} {g : Option (Nat × Bool)} {vs us : List AV} {r : AV} (hv : evL e xs = some us) (hg : met e g) (hs : SubL us vs) (hf : fs.contains j = false) (ha : al.contains j = false) (hr : rs.contains j = false) (hac : AE P f vs h r h) (k : DA P N Φ n0 al ws rs fs K (j + 1) l (putR d (some r) e) h) : DA P N Φ n0 al ws rs fs K j (⟨d, .call f xs, g⟩ :: l) e h :=
  .fx [] (fun _ => FX.call hg hv (hac.sub hs)) (fun hy => by simp [free0] at hy) (fun _ _ => rfl) (fun hy => by rw [ha] at hy; cases hy) (fun hy => by rw [hr] at hy; cases hy) (fun _ => ⟨by simp, by simp⟩) (fun _ h2 => h2) (fun hy => by rw [hf] at hy; cases hy) k
/-- Two codes, one behind the other, with what holds between them. -/
theorem WW.seqM {c1 c2 : CC} (I : Env → AHeap → Prop) (h1 : WW P N c1 (fun x e h => x = .normal ∧ I e h) e h) (h2 : ∀ e h, I e h → WW P N c2 Q e h) : WW P N (.seq c1 c2) Q e h :=
  WW.seq ⟨h1.out.mono fun x e h hq => by
    obtain ⟨rfl, hi⟩ := hq
    exact thenN (h2 e h hi)⟩
/-- The heap under a name of its own. -/
theorem WW.named {c : CC} (p : AHeap → Prop) (hp : p h) (k : ∀ h5, p h5 → WW P N c Q e h5) : WW P N c Q e h := k h hp
theorem WW.dregA [MO P] {es : List (List Nat)} (al ws rs fs W : List Nat) {n : Nat} (hn : h.next = n) (hc : chkA l es al ws rs fs = true) (hd : DA P N (PhiW n W h) n al ws rs fs (fun e h => Q .normal e h) 0 l e (h.keep al.length)) : WW P N (.dreg l es) Q e h := by
  subst hn
  refine WW.cvt (Cvt.keep al.length) ⟨AW.dregA MO.mo hc (Nat.le_refl _) (fun id h1 h2 => ?_) (fun _ _ _ => rfl) hd⟩
  simp only [AHeap.keep, Bool.or_eq_true, Bool.and_eq_true, decide_eq_true_eq]
  exact .inr ⟨h1, h2⟩
end
end Go.Abs

namespace Go.Abs
open Go

section
variable {P : Program} {N : Nat} {e : Env} {h : AHeap} {m : Inj} {w : World} {nm : Nat}

theorem grown_mem (hr : HR m h w) (hf : ¬ h.used nm) {sz cap : Nat} {d : List (List AV)} {F : Nat → Value} {cc : Array Value} {T : TypeId} (hrow : RowF m h w sz d F) (hcap : d.length ≤ cap) (hcc : cap * sz ≤ cc.size)
    (hF : ∀ k, k < d.length * sz → cc[k]? = some (F k)) :
    HR (upd m nm (some (w.heap.size, 0))) (h.put nm (.mem sz d)) (w.drew.alloc (.cells cc T)) ∧ Step m h w (upd m nm (some (w.heap.size, 0))) (h.put nm (.mem sz d)) (w.drew.alloc (.cells cc T)) ∧
      VR (upd m nm (some (w.heap.size, 0))) (h.put nm (.mem sz d)) (w.drew.alloc (.cells cc T)) (.ref nm 0 d.length) (.slice (some ⟨w.heap.size, 0, none⟩) d.length cap) := by
  have hle : d.length * sz ≤ cap * sz := Nat.mul_le_mul_right _ hcap
  have hrow2 : RowF m h w.drew sz d (fun k => cc.getD k undef) := by
    refine ⟨hrow.1, hrow.2.1, fun i cells hi j v hj => ?_⟩
    have h1 : i < d.length := (List.getElem?_eq_some_iff.1 hi).1
    have h2 : j < sz := by
      have := hrow.1 cells (List.mem_of_getElem? hi)
      have := (List.getElem?_eq_some_iff.1 hj).1
      omega
    have h3 : i * sz + j < d.length * sz := by
      have : (i + 1) * sz ≤ d.length * sz := Nat.mul_le_mul_right _ h1
      rw [Nat.succ_mul] at this
      omega
    have h4 : cc.getD (i * sz + j) undef = F (i * sz + j) := by
      rw [Array.getD_eq_getD_getElem?, hF _ h3]; rfl
    show VR m h w.drew v (cc.getD (i * sz + j) undef)
    rw [h4]
    exact (hrow.2.2 i cells hi j v hj).step step_drew
  obtain ⟨r1, r2⟩ := new_row (T := T) (hr.drew) hf (by omega) hrow2
  refine ⟨r1, Step.trans step_drew r2, .ref nm 0 d.length cap _ put_used_nm hcap fun s c hg => ?_⟩
  simp only [AHeap.put, if_true, Option.some.injEq, AObj.mem.injEq] at hg
  obtain ⟨rfl, rfl⟩ := hg
  exact ⟨w.heap.size, by simp [upd], by omega, .inr (by simp), cc, T, heap_alloc_new w.drew _, by rw [Nat.zero_add]; exact hcc⟩
theorem append_mem (hr : HR m h w) (hf : ¬ h.used nm) {t ty el : TypeId} {i : TypeInfo} {z : Value} (hu : P.underlying t = some (.slice el)) (hi : P.info? el = some i) (hz : i.zero = some z) (hsz : 0 < i.size) (hb : 0 < i.bytes) (hzz : z.cells.size = i.size)
    {base : Option Addr} {x : AV} {cx : Value} (hx : VR m h w x cx) {d : List (List AV)} (hd : rdS h.get i.size x = some d) (hne : d ≠ []) (hbig : d.length * i.bytes ≤ 140737488355328) :
    ∃ m' w' cv, (Builtin.append_ #[t, t] ty #[.slice base 0 0, cx]).run P w = .ok cv w' ∧ HR m' (h.put nm (.mem i.size d)) w' ∧ Step m h w m' (h.put nm (.mem i.size d)) w' ∧ VR m' (h.put nm (.mem i.size d)) w' (.ref nm 0 d.length) cv := by
  obtain ⟨ad, cap, F, rfl, hcap, hrow, h1c, hcell⟩ := rdS_list hr hx hd
  obtain ⟨b, o', rfl, hc⟩ := hcell hne
  have hpos : 0 < d.length := List.length_pos_iff.2 hne
  have hn1 : d.length * 1 ≤ d.length * i.bytes := Nat.mul_le_mul_left _ hb
  have hg := grownCap_ge w d.length 0 el
  have hsize : ∀ n, d.length ≤ n → n * i.size ≤ (((List.range (d.length * i.size)).map F).toArray ++ Builtin.zeroCells z.cells (n - d.length)).size := by
    intro n hn
    simp only [Array.size_append, List.size_toArray, List.length_map, List.length_range, size_zeroCells, hzz, ← Nat.add_mul]
    exact Nat.mul_le_mul_right _ (by omega)
  obtain ⟨r1, r2, r3⟩ := grown_mem (T := el) hr hf hrow hg (hsize _ hg) (fun k hk => range_get F _ k hk _)
  cases base with
  | none =>
    exact ⟨_, _, _, run_append_nil (P := P) w t ty el i z hu hi hz ⟨b, o', none⟩ d.length cap _ (by simp) hc hpos (by omega) (by omega), r1, r2, r3⟩
  | some bb =>
    have hrun := run_append_grow (P := P) w t ty el i z hu hi hz bb 0 0 [] (by simp) (by simp) ⟨b, o', none⟩ d.length cap ((List.range (d.length * i.size)).map F) (by simp) hc (by omega) (by omega) (growslice_fits (by omega) (by rw [Nat.zero_add]; exact hbig))
    simp only [Nat.zero_add, Array.empty_append] at hrun
    exact ⟨_, _, _, hrun, r1, r2, r3⟩
/-- An append to nothing, as a row of its own. -/
theorem FX.appM {d : Option Nat} {sz bytes : Nat} {x y : Opd} {g : Option (Nat × Bool)} {v : AV} {c : List (List AV)} (hf : ¬ h.used nm) (hx : ev e x = some .nils) (hy : ev e y = some v) (hc : rdS h.get sz v = some c) (hne : c ≠ []) (hb : c.length * bytes ≤ 140737488355328) (hg : met e g) : FX P N ⟨d, .app sz bytes x y, g⟩ e h (some (.ref nm 0 c.length)) (h.put nm (.mem sz c)) := by
  refine FX.ofN (f := .new (.mem sz c)) rfl hg fun o ho e2 hs m w a hr he => ?_
  obtain ⟨cl, s, n, t, el, i, z, hop, hcal, hargs, hat, hu, h1, h2, hi, hz, p1, p2, p3, rfl, rfl⟩ := cx_app ho
  have hx2 : ev e2 x = some .nils := (ev_congr fun s h => hs s (by simp [islots, h])).trans hx
  have hy2 : ev e2 y = some v := (ev_congr fun s h => hs s (by simp [islots, h])).trans hy
  have ha' : cl.args = #[s, n] := by rw [← Array.toArray_toList (xs := cl.args), hargs]
  have hat' : cl.argTypes = #[t, t] := by rw [← Array.toArray_toList (xs := cl.argTypes), hat]
  have e1 := he.eval h1 hx2
  have e3 := he.eval h2 hy2
  have hbase : ∃ base, a.eval s = .slice base 0 0 := by
    generalize a.eval s = cx at e1
    cases e1 with
    | nils0 => exact ⟨_, rfl⟩
    | nils1 ad => exact ⟨_, rfl⟩
  obtain ⟨base, hcx⟩ := hbase
  obtain ⟨m', w', cv, q1, q2, q3, q4⟩ := append_mem (P := P) (ty := o.type) (base := base) hr hf hu hi hz p1 p2 p3 e3 hc hne hb
  exact ⟨m', w', q2, q3, cv, by simp [execOp, hop, resolve, hcal, ha', hat', invoke, builtin, hcx, q1], q4⟩
variable {n0 : Nat} {al ws rs fs : List Nat} {K : Env → AHeap → Prop} {l : List CI} {j : Nat}
/-- In a drawn region: an append to nothing as a row of its own, under a kept name. -/
theorem DA.appM {d : Nat} {sz bytes : Nat} {x y : Opd} {g : Option (Nat × Bool)} {v : AV} {c : List (List AV)} {i n : Nat} {W : List Nat} {h0 : AHeap} (hx : ev e x = some .nils) (hy : ev e y = some v) (hc : ∀ h2 : AHeap, rdS h2.get sz v = some c) (hne : c ≠ []) (hb : c.length * bytes ≤ 140737488355328) (hi : al.idxOf j = i) (hg : met e g) (ha : al.contains j = true) (hr : rs.contains j = false) (hf : fs.contains j = false)
    (k : DA P N (PhiW n W h0) n al ws rs fs K (j + 1) l ((d, some (.ref (n + i) 0 c.length)) :: e) (h.put (n + i) (.mem sz c))) : DA P N (PhiW n W h0) n al ws rs fs K j (⟨some d, .app sz bytes x y, g⟩ :: l) e h := by
  subst hi
  exact .fx (r := some (.ref (n + al.idxOf j) 0 c.length)) [.put (n + al.idxOf j) (.mem sz c)] (fun hz => by rw [ha] at hz; cases hz) (fun hz => by simp [free0] at hz) (fun _ hz => by rw [ha] at hz; cases hz) (fun _ => ⟨_, rfl, fun h2 hu => FX.appM hu hx hy (hc h2) hne hb hg⟩) (fun hz => by rw [hr] at hz; cases hz)
    (fun hz => by rw [ha] at hz; cases hz) (fun h2 hp => PhiW.put (Nat.le_add_right _ _) hp) (fun hz => by rw [hf] at hz; cases hz) k
end
end Go.Abs

namespace Go.Abs
open Go

section
variable {P : Program} {N : Nat} {e : Env} {h : AHeap} {m : Inj} {w : World} {nm : Nat}
variable {n0 : Nat} {al ws rs fs : List Nat} {K : Env → AHeap → Prop} {l : List CI} {j : Nat}
/-- In a drawn region: a call that leaves every heap, wherever it is drawn. -/
theorem DA.callF {Φ : AHeap → Prop} {d : Option Nat} {f : Nat} {xs : List Opd} {g : Option (Nat × Bool)} {vs us : List AV} {r : AV} (hv : evL e xs = some us) (hg : met e g) (hs : SubL us vs) (hf : fs.contains j = true) (ha : al.contains j = false) (hr : rs.contains j = false) (hac : ∀ h2, Φ h2 → AE P f vs h2 r h2) (hph : Φ h) (k : DA P N Φ n0 al ws rs fs K (j + 1) l (putR d (some r) e) h) : DA P N Φ n0 al ws rs fs K j (⟨d, .call f xs, g⟩ :: l) e h :=
  .fx [] (fun _ => FX.call hg hv ((hac h hph).sub hs)) (fun hy => by simp [free0] at hy) (fun _ _ => rfl) (fun hy => by rw [ha] at hy; cases hy) (fun hy => by rw [hr] at hy; cases hy) (fun _ => ⟨by simp, by simp⟩) (fun _ h2 => h2) (fun _ => ⟨rfl, fun h2 h3 => FX.call hg hv ((hac h2 h3).sub hs)⟩) k
/-- Where two ways meet. -/
theorem WL.cut {Q : Exit → Env → AHeap → Prop} {l : List CI} (I : Env → AHeap → Prop) (hI : I e h) (k : ∀ e h, I e h → WL P N l Q e h) : WL P N l Q e h := k e h hI
/-- The same between two codes, the first one begun. -/
theorem WW.mid {Q : Exit → Env → AHeap → Prop} {A : Env → AHeap → Prop} {c : CC} (I : Env → AHeap → Prop) (h1 : WW P N c (fun x e h => x = .normal ∧ I e h) e h) (h2 : ∀ e h, I e h → A e h) : WW P N c (thenQ A Q) e h :=
  ⟨h1.out.mono fun x e h hq => by
    obtain ⟨rfl, hi⟩ := hq
    exact thenN (h2 e h hi)⟩
/-- A call of a function value. -/
theorem FX.callv {h' : AHeap} {d : Option Nat} {f : Nat} {x : Opd} {xs : List Opd} {g : Option (Nat × Bool)} {us vs ts : List AV} {r : AV} (hx : ev e x = some (.func (.func f) us ts)) (hv : evL e xs = some vs) (hg : met e g) (hb : bodied P f = true) (hac : AE P f (us ++ vs ++ ts) h r h') : FX P N ⟨d, .callv x xs, g⟩ e h (some r) h' := by
  intro ops i o ho hc e2 hs m w a K Q hr he hk
  rcases compI_ok hc with ⟨hb1, hb2⟩ | ⟨hd, hdst, hcomp, hgd⟩
  · simp at hb1
  · obtain ⟨w1, w2⟩ := wanted_of he hgd
    have hi : ∀ s ∈ lslots xs, lk s e2 = lk s e := fun s h => hs s (by unfold cslots; split <;> simp [h, islots])
    have hi2 : ∀ s ∈ oslots x, lk s e2 = lk s e := fun s h => hs s (by unfold cslots; split <;> simp [h, islots])
    have hw : Region.wanted o (yielded ops a.tmps) = true := by
      cases g with
      | none => exact w1 rfl
      | some sb =>
        obtain ⟨s, b⟩ := sb
        have hl : lk s e2 = some (.bool b) := (hs s (by simp [cslots])).trans hg
        rw [w2 s b b rfl hl]; simp
    simp only [wpOp, ho]
    rw [if_pos hw]
    left
    have hco := hcomp rfl
    obtain ⟨c, y, hop, hcal, hy, hxs⟩ := compile_callv hco
    obtain ⟨hl1, hl2⟩ := he.evalL hxs ((evL_congr hi).trans hv)
    have hfv := he.eval hy ((ev_congr hi2).trans hx)
    generalize hcx : a.eval (.tmp y) = cx at hfv
    cases hfv with
    | func _ _ _ cs ds q1 q2 q3 q4 =>
      have hrun : (execOp a.eval o).run P w = .ok (.enter f (cs ++ c.args.map a.eval ++ ds)) w := by
        simp [execOp, hop, resolve, hcal, hcx, Deferred.ofValue, invoke, run_callFunc hb]
      refine call_wp hrun hr (by simp [q1, q2, hl1]) (fun j v hj => ?_) hac fun v w' m' r1 h1 g1 g2 g3 ⟨g4, g5⟩ => ?_
      · rw [List.append_assoc] at hj
        simp only [Array.getD_eq_getD_getElem?]
        by_cases j1 : j < us.length
        · rw [List.getElem?_append_left j1] at hj
          have := q3 j v hj
          rw [Array.append_assoc, Array.getElem?_append_left (by omega)]
          simpa [Array.getD_eq_getD_getElem?] using this
        · rw [List.getElem?_append_right (by omega)] at hj
          rw [Array.append_assoc, Array.getElem?_append_right (by omega), ← q1]
          by_cases j2 : j - us.length < vs.length
          · rw [List.getElem?_append_left j2] at hj
            have := hl2 _ v hj
            rw [Array.getElem?_append_left (by simp at hl1 ⊢; omega)]
            simpa [List.getD_eq_getElem?_getD] using this
          · rw [List.getElem?_append_right (by omega)] at hj
            have := q4 _ v hj
            have hl1' : vs.length = c.args.size := by simpa using hl1
            rw [Array.getElem?_append_right (by simp; omega)]
            simpa [Array.getD_eq_getD_getElem?, hl1'] using this
      · subst g4; subst g5
        refine hk m' w' _ g1 ?_ g3
        have hd' : d = o.dst := hd
        show ER N m' h1 w' (putR d (some r1) e2) _
        rw [hd']
        exact (he.step g3).putR hdst g2
end
end Go.Abs

namespace Go.Abs
open Go

section
variable {P : Program} {N : Nat} {e : Env} {h h' : AHeap} {m : Inj} {w : World} {Q : Exit → Env → AHeap → Prop} {l : List CI}
theorem cx_mksl {o : Oper} {sz bytes : Nat} {z : List AV} {x y : Opd} (hc : compileOp P N o = some (.mksl sz z bytes x y)) : ∃ t el i zv lx cx, o.op = .makeSlice t lx cx ∧ P.underlying t = some (.slice el) ∧ P.info? el = some i ∧ i.zero = some zv ∧ ofL ofV zv.cells.toList = some z ∧
    0 < i.bytes ∧ 0 < i.size ∧ zv.cells.size = i.size ∧ ofOpd N lx = some x ∧ ofOpd N cx = some y ∧ sz = i.size ∧ bytes = i.bytes := by
  cases hop : o.op <;> simp only [compileOp, hop] at hc <;> try (cases hc; done)
  case makeSlice t lx cx =>
    repeat' split at hc
    all_goals first
      | (cases hc; done)
      | (rename_i hcond; cases hc; exact ⟨_, _, _, _, _, _, rfl, ‹_›, ‹_›, ‹_›, ‹_›, hcond.1, hcond.2.1, hcond.2.2, ‹_›, ‹_›, rfl, rfl⟩)
      | contradiction
  all_goals
    (repeat' split at hc
     all_goals first
       | (cases hc; done)
       | (rw [Option.map_eq_some_iff] at hc; obtain ⟨_, _, h⟩ := hc; cases h; done)
       | contradiction)
/-- The heap under a name of its own, within a region. -/
theorem WL.named (p : AHeap → Prop) (hp : p h) (k : ∀ h5, p h5 → WL P N l Q e h5) : WL P N l Q e h := k h hp
/-- A made row that is never written. -/
theorem FX.mkslI {d : Option Nat} {sz bytes n : Nat} {z : List AV} {x y : Opd} {k k' : IntKind} {a b : Int} {g : Option (Nat × Bool)} (hx : ev e x = some (.int k a)) (hy : ev e y = some (.int k' b)) (ha : a = n) (hb : b = n) (hm : n * bytes ≤ 140737488355328) (hg : met e g) :
    FX P N ⟨d, .mksl sz z bytes x y, g⟩ e h (some (.imm sz (List.replicate n z))) h := by
  subst ha hb
  refine FX.of (f := .none) rfl hg fun o ho e2 hs m w a hr he => ?_
  obtain ⟨t, el, i, zv, lx, cx, hop, hu, hi, hz, hzs, hbb, hsz, hzz, h1, h2, rfl, rfl⟩ := cx_mksl ho
  have hx2 : ev e2 x = some (.int k n) := (ev_congr fun s h => hs s (by simp [islots, h])).trans hx
  have hy2 : ev e2 y = some (.int k' n) := (ev_congr fun s h => hs s (by simp [islots, h])).trans hy
  have e1 := vr_int (he.eval h1 hx2)
  have e3 := vr_int (he.eval h2 hy2)
  obtain ⟨hzl, hzsc, hzv⟩ := ofL_ofV (m := m) (h := h) (w := w) hzs
  have hzl' : z.length = i.size := by simpa [hzz] using hzl
  have hn1 : n * 1 ≤ n * i.bytes := Nat.mul_le_mul_left _ hbb
  have hmul : ((n : Int) * (i.bytes : Int)) = ((n * i.bytes : Nat) : Int) := by simp
  have hrun := run_make (P := P) w t el i zv hu hi hz k k' n n (by omega) (Int.le_refl _) (by rw [Int.mul_comm]; omega) (by omega)
  have st : Step m h w m h (w.alloc (.cells (madeCells zv.cells (n * i.size)) el)) := step_alloc hr _
  refine ⟨m, _, hr.alloc _, st, .slice (some ⟨w.heap.size, 0, none⟩) n n, by simp [execOp, hop, e1, e3, hrun], ?_⟩
  have key := VR.imm (m := m) (h := h) (w := w.alloc (.cells (madeCells zv.cells (n * i.size)) el)) i.size (List.replicate n z) w.heap.size 0 n (fun k => (madeCells zv.cells (n * i.size)).getD k undef) (fun q hq => ⟨?_, ?_⟩) (fun x hx => by rw [List.eq_of_mem_replicate hx]; exact hzl') (fun x hx => by rw [List.eq_of_mem_replicate hx]; exact hzsc) (fun q cells hq j v hj => ?_) (by simp)
  · simp only [List.length_replicate] at key
    exact key
  · rw [Nat.zero_add, World.cell?_alloc_new]
    simp only [List.length_replicate] at hq
    simp [Array.getD_eq_getD_getElem?, show q < (madeCells zv.cells (n * i.size)).size by rw [size_madeCells]; exact hq]
  · rintro ⟨id, t', ⟨x, hx⟩, hmx, _⟩
    have := (hr.obj id x hx).lt hmx
    omega
  · have hql : q < n := by simpa using (List.getElem?_eq_some_iff.1 hq).1
    have hc : cells = z := List.eq_of_mem_replicate (List.mem_of_getElem? hq)
    subst hc
    have hjl : j < i.size := by rw [← hzl']; exact (List.getElem?_eq_some_iff.1 hj).1
    have hlt := idx_lt hql hjl
    have := hzv j v hj
    simp only [madeCells, Array.getD_eq_getD_getElem?]
    rw [Array.getElem?_map, Array.getElem?_range, if_pos hlt]
    simp only [Option.map_some, Option.getD_some]
    have hmod : (q * i.size + j) % zv.cells.size = j := by rw [hzz, Nat.mul_comm, Nat.mul_add_mod, Nat.mod_eq_of_lt hjl]
    rw [hmod]
    refine VR.step st ?_
    simpa [List.getD_eq_getElem?_getD, Array.getElem?_eq_getElem (show j < zv.cells.size by omega), getElem!_pos zv.cells j (by omega)] using this
/-- A row of cells, each told with less. -/
theorem SubV.imm {sz : Nat} {c d : List (List AV)} (hl : c.length = d.length) (hs : ∀ (i : Nat) (x y : List AV), c[i]? = some x → d[i]? = some y → SubL x y) (hsc : Scal d) : SubV (.imm sz c) (.imm sz d) := fun m h w cv hv => by
  have hlen : Len sz c → Len sz d := fun h y hy => by
    obtain ⟨i, hi, rfl⟩ := List.mem_iff_getElem.1 hy
    have h1 := List.getElem?_eq_getElem (show i < c.length by omega)
    rw [← (hs i _ _ h1 (List.getElem?_eq_getElem hi)).len]
    exact h _ (List.getElem_mem _)
  cases hv with
  | imm0 => cases d with
    | nil => exact .imm0 _
    | cons => simp at hl
  | imm1 => cases d with
    | nil => exact .imm1 _ _ _
    | cons => simp at hl
  | imm _ _ b o cap F hic hln hs2 hrr hc =>
    rw [hl]
    refine .imm _ _ b o cap F (by rw [← hl]; exact hic) (hlen hln) hsc (fun i cells hi j v hj => ?_) (by omega)
    have hlt : i < c.length := by rw [hl]; exact (List.getElem?_eq_some_iff.1 hi).1
    have hx := hs i _ _ (List.getElem?_eq_getElem hlt) hi
    have hjl : j < c[i].length := by rw [hx.len]; exact (List.getElem?_eq_some_iff.1 hj).1
    exact hx.get j _ _ (List.getElem?_eq_getElem hjl) hj _ _ _ _ (hrr i _ (List.getElem?_eq_getElem hlt) j _ (List.getElem?_eq_getElem hjl))
end
end Go.Abs

namespace Go.Abs
open Go
/-- All that is used stands as it stood, but for W. -/
def KeepsB (W : List Nat) (h h1 : AHeap) : Prop := h.next ≤ h1.next ∧ ∀ id, h.used id → id ∉ W → h1.get id = h.get id
section
variable {W : List Nat} {h h1 h2 : AHeap}
theorem KeepsB.refl : KeepsB W h h := ⟨Nat.le_refl _, fun _ _ _ => rfl⟩
theorem KeepsB.put (hk : KeepsB W h h1) {nm : Nat} (hn : h.next ≤ nm) (x : AObj) : KeepsB W h (h1.put nm x) := by
  refine ⟨next_le_put hk.1, fun id hu hw => ?_⟩
  rw [get_put, if_neg (by have := hu.1; omega)]
  exact hk.2 id hu hw
theorem KeepsB.setN (hk : KeepsB W h h1) {nm : Nat} (hn : h.next ≤ nm) (x : Option AObj) : KeepsB W h (h1.set nm x) := by
  refine ⟨hk.1, fun id hu hw => ?_⟩
  rw [get_set, if_neg (by have := hu.1; omega)]
  exact hk.2 id hu hw
theorem KeepsB.setW (hk : KeepsB W h h1) {nm : Nat} (hn : nm ∈ W) (x : Option AObj) : KeepsB W h (h1.set nm x) := by
  refine ⟨hk.1, fun id hu hw => ?_⟩
  have hne : id ≠ nm := fun e => hw (by rw [e]; exact hn)
  rw [get_set, if_neg hne]
  exact hk.2 id hu hw
theorem KeepsB.keep (hk : KeepsB W h h1) (k : Nat) : KeepsB W h (h1.keep k) := ⟨Nat.le_trans hk.1 (Nat.le_add_right _ _), hk.2⟩
theorem KeepsB.trans {V : List Nat} (hk : KeepsB W h h1) (hk2 : KeepsB V h1 h2) (hv : ∀ id ∈ V, id ∈ W ∨ h.next ≤ id) (hg : ∀ id, h.used id → h1.used id) : KeepsB W h h2 :=
  ⟨Nat.le_trans hk.1 hk2.1, fun id hu hw => (hk2.2 id (hg id hu) fun hi => by
    rcases hv id hi with h3 | h3
    · exact hw h3
    · have := hu.1; omega).trans (hk.2 id hu hw)⟩
theorem KeepsB.of (hk : Keeps h h1) : KeepsB W h h1 := ⟨hk.1, fun id hu _ => hk.2 id hu⟩
theorem KeepsB.keeps (hk : KeepsB [] h h1) : Keeps h h1 := ⟨hk.1, fun id hu => hk.2 id hu (by simp)⟩
end
end Go.Abs

--abbrs off
namespace Go.Abs
open Go
theorem gKB {W : List Nat} {h h1 : AHeap} (p : KeepsB W h h1 := by repeat first | exact KeepsB.refl | assumption | with_reducible refine KeepsB.keep ?_ _ | with_reducible refine KeepsB.put ?_ (by omega) _ | with_reducible refine KeepsB.setN ?_ (by omega) _ | with_reducible refine KeepsB.setW ?_ (by simp; done) _) : KeepsB W h h1 := p
end Go.Abs


namespace Go.Proofs.YtafkhpjnihnfpaaGreat
open Go Go.Abs

theorem orAt_get {h h2 : AHeap} {o t s g : Nat} {L : List Iss} {S : List Bs} (hO : OrAt h o t s g L S) (h1 : h2.get o = h.get o) (h3 : h2.get t = h.get t) (h4 : h2.get s = h.get s) : OrAt h2 o t s g L S :=
  ⟨h1.trans hO.obj, h3.trans hO.tok, h4.trans hO.sums⟩
theorem newO_ex (h : AHeap) : ∃ h1, newO h = h1 ∧ OrAt h1 (h.next + 1) (h.next + 2) h.next 0 [] [] ∧ (∀ nx, h.next = nx → h1.next = nx + 3) ∧ (∀ id, id < h.next → h1.get id = h.get id) ∧ ∀ h0 : AHeap, Keeps h0 h → Keeps h0 h1 :=
  ⟨_, rfl, newO_at h, fun nx hn => by rw [newO_next, hn], fun id hi => newO_get h hi, fun h0 hk => ⟨by rw [newO_next]; exact Nat.le_trans hk.1 (by omega), fun id hu => by rw [newO_get h (Nat.lt_of_lt_of_le hu.1 hk.1)]; exact hk.2 id hu⟩⟩
theorem oracle_New_ae2 {h : AHeap} {nx : Nat} (hn : h.next = nx) : AE Tryz.prog 72 [] h (.ptr (nx + 1) 0 0) (newO h) := by subst hn; exact oracle_New_ae h
theorem newO_ex2 {h : AHeap} {nx : Nat} (hn : h.next = nx) : ∃ h1, newO h = h1 ∧ OrAt h1 (nx + 1) (nx + 2) nx 0 [] [] ∧ h1.next = nx + 3 ∧ (∀ id, id < nx → h1.get id = h.get id) ∧ ∀ h0 : AHeap, Keeps h0 h → Keeps h0 h1 := by
  subst hn
  obtain ⟨h1, a, b, c, d, e⟩ := newO_ex h
  exact ⟨h1, a, b, c _ rfl, d, e⟩
theorem int_of {k : IntKind} {cells : List AV} (h : TypL [.i k] cells) : ∃ n : Int, cells = [.int k n] ∧ (Lit.int k n).wf = true := by
  obtain ⟨v, vs, rfl, h1, h2⟩ := h.cons_inv
  obtain rfl := h2.nil_inv
  obtain ⟨x, rfl, hw⟩ := h1.int_inv
  exact ⟨x, rfl, hw⟩
end Go.Proofs.YtafkhpjnihnfpaaGreat


namespace Go.Proofs.YtafkhpjnihnfpaaGreat
open Go Go.Abs

@[simp] theorem putB_lenS (v : Int) : (putB v 8).length = 8 := putB_len v
/-- An ideal lock's cells. -/
def idC (o : Nat) : List AV := [.func (.func 73) [.ptr o 0 0] [], .func (.func 74) [.ptr o 0 0] [], .func (.func 75) [.ptr o 0 0] [], .func (.func 70) [.ptr o 0 0] [], .func (.func 71) [.ptr o 0 0] []]
/-- An ideal lock stands at l. -/
structure IdAt (h : AHeap) (l o t s g : Nat) (L : List Iss) (S : List Bs) : Prop where
  cells : h.get l = some (.mem 5 [idC o])
  ora : OrAt h o t s g L S
theorem lock_Ideal_ae {h : AHeap} {nx : Nat} (hn : h.next = nx) : AE Tryz.prog 42 [] h (.ptr (nx + 3) 0 0) ((newO h).put (nx + 3) (.mem 5 [idC (nx + 1)])) := by
  subst hn
  refine AC.introW is_lock_Ideal (by simp) ?_
  unfold c_lock_Ideal
  (refine go ?_)
  refine WL.call rfl (by first | exact True.intro | exact rfl) gSL (oracle_New_ae2 rfl) ?_
  have hn := newO_next h
  generalize newO h = h1 at *
  (refine go ?_)
  exact WW.ret ⟨.inl rfl, _, gRES, rfl, rfl⟩
/-- A new ideal lock's heap, under a name of its own. -/
theorem newL_ex {h : AHeap} {nx : Nat} (hn : h.next = nx) : ∃ h1, (newO h).put (nx + 3) (.mem 5 [idC (nx + 1)]) = h1 ∧ IdAt h1 (nx + 3) (nx + 1) (nx + 2) nx 0 [] [] ∧ h1.next = nx + 4 ∧ (∀ id, id < nx → h1.get id = h.get id) ∧ ∀ h0 : AHeap, Keeps h0 h → Keeps h0 h1 := by
  obtain ⟨h1, e1, o1, n1, m1, k1⟩ := newO_ex2 hn
  rw [e1]
  refine ⟨_, rfl, ⟨gH, (orAt_get o1 gE gE gE)⟩, next_putE n1, fun id hi => (get_put_neE (by omega) rfl).trans (m1 id hi), fun h0 hk => ?_⟩
  have := k1 h0 hk
  have h2 := hk.1
  exact this.put (by omega) _

end Go.Proofs.YtafkhpjnihnfpaaGreat


namespace Go.Proofs.YtafkhpjnihnfpaaGreat
open Go Go.Abs

theorem pairB_len16 (p : Pr) : (pairB p).length = 16 := by simp [pairB]
attribute [local irreducible] encF pairB
theorem flowR_len (sub : Pr) : ∀ k i : Nat, (flowR sub k i).length = 16 * k
  | 0, _ => rfl
  | k + 1, i => by rw [flowR, List.length_append, pairB_len16, flowR_len sub k]; omega
theorem flowF_len (sub : Pr) (n : Nat) : (flowF sub n).length = n := by
  rw [flowF, List.length_take, flowR_len]; omega
theorem xorB_len {a b : Bs} (hb : b.length = a.length) : (xorB a b).length = a.length := by simp [xorB, hb]
end Go.Proofs.YtafkhpjnihnfpaaGreat


namespace Go.Proofs.YtafkhpjnihnfpaaGreat
open Go Go.Abs

def getS (v : Int) (c : UInt8) : Int := o64 (shl64 v 8) (c.toNat : Int)
end Go.Proofs.YtafkhpjnihnfpaaGreat


set_option maxRecDepth 100000
namespace Go.Proofs.YtafkhpjnihnfpaaGreat
open Go Go.Abs

def c_geom_Geom_among : CC := .seq (.reg [⟨some 3, .box 1 (.t 0), none⟩, ⟨some 6, .mov (.c (.bool false)), none⟩]) (.seq (.reg [⟨some 7, .faddr 0 (.t 3), none⟩, ⟨some 8, .load 1 false (.t 7), none⟩, ⟨some 9, .call 39 [.t 8], none⟩, ⟨some 10, .mov (.t 9), none⟩, ⟨some 11, .mov (.t 1), some (10, true)⟩, ⟨some 12, .bin .geq (.t 11) (.c (.int .i64 0)), some (10, true)⟩, ⟨some 13, .pick (.t 10) (.t 12) (.c (.bool false)), none⟩, ⟨some 14, .mov (.t 13), none⟩, ⟨some 15, .mov (.t 1), some (14, true)⟩, ⟨some 16, .mov (.t 2), some (14, true)⟩, ⟨some 17, .bin .lss (.t 15) (.t 16), some (14, true)⟩, ⟨some 18, .pick (.t 14) (.t 17) (.c (.bool false)), none⟩, ⟨some 6, .mov (.t 18), none⟩]) .ret)
theorem is_geom_Geom_among : FnIs Tryz.prog 111 19 c_geom_Geom_among [.t 6] := ⟨Tryz.f111, _, Tryz.func111, rfl, rfl, by kernel_rfl, by kernel_rfl⟩

def c_geom_Geom_area : CC := .seq (.reg [⟨some 1, .box 1 (.t 0), none⟩, ⟨some 2, .mov (.c (.int .i64 0)), none⟩]) (.seq (.reg [⟨some 3, .faddr 0 (.t 1), none⟩, ⟨some 4, .load 1 false (.t 3), none⟩, ⟨some 5, .bin .mul (.t 4) (.c (.int .i64 64)), none⟩, ⟨some 2, .mov (.t 5), none⟩]) .ret)
theorem is_geom_Geom_area : FnIs Tryz.prog 112 6 c_geom_Geom_area [.t 2] := ⟨Tryz.f112, _, Tryz.func112, rfl, rfl, by kernel_rfl, by kernel_rfl⟩

def c_geom_Geom_Rec : CC := .seq (.reg [⟨some 2, .box 1 (.t 0), none⟩, ⟨some 4, .mov (.c (.int .i64 0)), none⟩]) (.seq (.seq (.reg [⟨some 5, .load 1 true (.t 2), none⟩, ⟨some 6, .mov (.t 1), none⟩, ⟨some 7, .call 111 [.t 5, .t 6, .c (.int .i64 2)], none⟩, ⟨some 8, .not (.t 7), none⟩]) (.cond (.t 8) (.seq (.reg [⟨some 4, .mov (.c (.int .i64 (-1))), none⟩]) .ret) .skip)) (.seq (.dreg [⟨some 9, .faddr 0 (.t 2), none⟩, ⟨some 10, .load 1 false (.t 9), none⟩, ⟨some 11, .bin .mul (.t 10) (.c (.int .i64 32)), none⟩, ⟨some 12, .load 1 true (.t 2), none⟩, ⟨some 13, .call 112 [.t 12], none⟩, ⟨some 14, .bin .mul (.c (.int .i64 2)) (.t 13), none⟩, ⟨some 15, .bin .add (.t 11) (.t 14), none⟩, ⟨some 16, .mov (.t 1), none⟩, ⟨some 17, .bin .mul (.t 16) (.c (.int .i64 60)), none⟩, ⟨some 18, .bin .add (.t 15) (.t 17), none⟩, ⟨some 4, .mov (.t 18), none⟩] [[], [0], [1], [], [3], [4], [2, 5], [], [7], [6, 8], [9, 4, 0, 1, 2, 3, 4, 5, 6, 7, 8, 9]]) .ret))
theorem is_geom_Geom_Rec : FnIs Tryz.prog 76 19 c_geom_Geom_Rec [.t 4] := ⟨Tryz.f76, _, Tryz.func76, rfl, rfl, by kernel_rfl, by kernel_rfl⟩

def c_geom_Geom_Size : CC := .seq (.reg [⟨some 1, .box 1 (.t 0), none⟩, ⟨some 2, .mov (.c (.int .i64 0)), none⟩]) (.seq (.seq (.reg [⟨some 3, .faddr 0 (.t 1), none⟩, ⟨some 4, .load 1 false (.t 3), none⟩, ⟨some 5, .call 39 [.t 4], none⟩, ⟨some 6, .not (.t 5), none⟩]) (.cond (.t 6) (.seq (.reg [⟨some 2, .mov (.c (.int .i64 0)), none⟩]) .ret) .skip)) (.seq (.reg [⟨some 7, .load 1 true (.t 1), none⟩, ⟨some 8, .call 76 [.t 7, .c (.int .i64 1)], none⟩, ⟨some 9, .bin .add (.t 8) (.c (.int .i64 60)), none⟩, ⟨some 2, .mov (.t 9), none⟩]) .ret))
theorem is_geom_Geom_Size : FnIs Tryz.prog 44 10 c_geom_Geom_Size [.t 2] := ⟨Tryz.f44, _, Tryz.func44, rfl, rfl, by kernel_rfl, by kernel_rfl⟩

def c_world_New : CC := .seq (.reg [⟨some 6, .mov (.c .nilp), none⟩, ⟨some 7, .mov (.c (.int .i64 0)), none⟩]) (.seq (.seq (.reg [⟨some 11, .mov (.t 0), none⟩, ⟨some 12, .call 39 [.t 11], none⟩, ⟨some 13, .not (.t 12), none⟩]) (.cond (.t 13) (.seq (.reg [⟨some 6, .mov (.c .nilp), none⟩, ⟨some 7, .mov (.c (.int .i64 1)), none⟩]) .ret) .skip)) (.seq (.reg [⟨some 14, .mov (.t 0), none⟩, ⟨some 15, .build [.int .i64 0] [(0, 1, .t 14)], none⟩, ⟨some 16, .call 40 [], none⟩, ⟨some 8, .alloc [.int .i64 0], none⟩, ⟨none, .store 1 (.t 8) (.t 15), none⟩, ⟨some 9, .mov (.t 16), none⟩]) (.seq (.reg [⟨some 17, .call 41 [], none⟩, ⟨some 10, .mov (.t 17), none⟩]) (.seq (.seq (.reg [⟨some 18, .mov (.t 2), none⟩]) (.cond (.t 18) (.reg [⟨some 19, .call 42 [], none⟩, ⟨some 10, .mov (.t 19), none⟩]) .skip)) (.seq (.dreg [⟨some 20, .load 1 true (.t 8), none⟩, ⟨some 21, .mov (.t 9), none⟩, ⟨some 22, .load 1 true (.t 8), none⟩, ⟨some 23, .call 44 [.t 22], none⟩, ⟨some 24, .mov (.t 9), none⟩, ⟨some 25, .call 43 [.t 23, .t 24], none⟩, ⟨some 26, .mov (.t 9), none⟩, ⟨some 27, .call 45 [.t 26], none⟩, ⟨some 28, .mov (.t 9), none⟩, ⟨some 29, .call 46 [.t 28], none⟩, ⟨some 30, .mov (.t 1), none⟩, ⟨some 31, .mov (.t 9), none⟩, ⟨some 32, .call 47 [.t 30, .t 31], none⟩, ⟨some 33, .mov (.t 10), none⟩, ⟨some 34, .build [.int .i64 0, .nilp, .nilp, .nilp, .nilp, .nilp, .nilp] [(0, 1, .t 20), (1, 1, .t 21), (2, 1, .t 25), (3, 1, .t 27), (4, 1, .t 29), (5, 1, .t 32), (6, 1, .t 33)], none⟩, ⟨some 35, .box 7 (.t 34), none⟩, ⟨some 6, .mov (.t 35), none⟩, ⟨some 7, .mov (.c (.int .i64 0)), none⟩] [[], [], [], [2], [], [3, 4, 3], [], [6, 5], [], [8, 7], [], [], [10, 11, 9], [], [0, 1, 5, 7, 9, 12, 13], [14], [15, 12, 0, 1, 2, 3, 4, 5, 6, 7, 8, 9, 10, 11, 12, 13, 14, 15], [16, 0, 1, 2, 3, 4, 5, 6, 7, 8, 9, 10, 11, 12, 13, 14, 15, 16]]) .ret)))))
theorem is_world_New : FnIs Tryz.prog 25 36 c_world_New [.t 6, .t 7] := ⟨Tryz.f25, _, Tryz.func25, rfl, rfl, by kernel_rfl, by kernel_rfl⟩

def c_world_World_Key : CC := .seq (.reg [⟨some 2, .mov (.c (.int .u32 0)), none⟩, ⟨some 3, .alloc [.int .u64 0, .int .u64 0], none⟩]) (.seq (.seq (.reg [⟨some 4, .mov (.t 0), none⟩, ⟨some 5, .eqv .p false (.t 4) (.c .nilp), none⟩]) (.cond (.t 5) (.seq (.reg [⟨some 6, .build [.int .u64 0, .int .u64 0] [], none⟩, ⟨some 2, .mov (.c (.int .u32 0)), none⟩, ⟨none, .store 2 (.t 3) (.t 6), none⟩]) .ret) .skip)) (.seq (.reg [⟨some 7, .mov (.t 0), none⟩, ⟨some 8, .nilck (.t 7), none⟩, ⟨some 9, .faddr 5 (.t 8), none⟩, ⟨some 10, .load 1 false (.t 9), none⟩, ⟨some 11, .call 127 [.t 10], none⟩, ⟨some 2, .mov (.t 11), none⟩]) (.seq (.reg [⟨some 13, .mov (.t 0), none⟩, ⟨some 14, .nilck (.t 13), none⟩, ⟨some 15, .faddr 5 (.t 14), none⟩, ⟨some 16, .load 1 false (.t 15), none⟩, ⟨some 17, .mov (.t 2), none⟩, ⟨some 18, .call 35 [.t 16, .t 17], none⟩, ⟨some 12, .mov (.t 18), none⟩, ⟨some 19, .ext 0 (.t 12), none⟩, ⟨some 20, .ext 1 (.t 12), none⟩, ⟨none, .store 2 (.t 3) (.t 19), none⟩]) (.seq (.dreg [⟨some 21, .mov (.t 2), none⟩, ⟨some 22, .load 2 true (.t 3), none⟩, ⟨some 2, .mov (.t 21), none⟩, ⟨none, .store 2 (.t 3) (.t 22), none⟩] [[], [], [0, 0], [1, 2, 0, 1, 2]]) .ret))))
theorem is_world_World_Key : FnIs Tryz.prog 170 23 c_world_World_Key [.t 2, .cell 3 2 true] := ⟨Tryz.f170, _, Tryz.func170, rfl, rfl, by kernel_rfl, by kernel_rfl⟩

end Go.Proofs.YtafkhpjnihnfpaaGreat


namespace Go.Proofs.YtafkhpjnihnfpaaGreat
open Go Go.Abs

def c_leaf_Is : CC := .seq (.reg [⟨some 2, .box 8 (.t 0), none⟩, ⟨some 4, .mov (.c (.bool false)), none⟩]) (.seq (.seq (.reg [⟨some 5, .mov (.t 1), none⟩, ⟨some 6, .bin .lss (.t 5) (.c (.int .i64 0)), none⟩, ⟨some 7, .mov (.t 6), none⟩, ⟨some 8, .mov (.t 1), some (7, false)⟩, ⟨some 9, .bin .geq (.t 8) (.c (.int .i64 16)), some (7, false)⟩, ⟨some 10, .pick (.t 7) (.c (.bool true)) (.t 9), none⟩]) (.cond (.t 10) (.seq (.reg [⟨some 4, .mov (.c (.bool false)), none⟩]) .ret) .skip)) (.seq (.seq (.reg [⟨some 11, .faddr 0 (.t 2), none⟩, ⟨some 12, .load 1 false (.t 11), none⟩]) (.block 0 (.seq (.reg [⟨some 14, .bin .eql (.t 12) (.c (.int .i64 0)), none⟩, ⟨some 13, .mov (.t 14), none⟩]) (.cond (.t 13) (.seq (.reg [⟨some 15, .load 8 true (.t 2), none⟩, ⟨some 16, .build [.int .i64 0, .bool false, .int .i64 0, .int .u32 0, .int .u32 0, .int .u64 0, .int .u64 0, .int .u64 0] [], none⟩, ⟨some 17, .eqv (.a [.i, .b, .i, .i, .i, .i, .i, .i]) false (.t 15) (.t 16), none⟩, ⟨some 4, .mov (.t 17), none⟩]) .ret) (.seq (.reg [⟨some 19, .bin .eql (.t 12) (.c (.int .i64 2)), none⟩, ⟨some 18, .mov (.t 19), none⟩]) (.cond (.t 18) (.seq (.reg [⟨some 20, .faddr 2 (.t 2), none⟩, ⟨some 21, .load 1 false (.t 20), none⟩, ⟨some 22, .call 66 [.t 21], none⟩, ⟨some 23, .mov (.t 22), none⟩, ⟨some 24, .load 8 true (.t 2), some (23, true)⟩, ⟨some 25, .faddr 2 (.t 2), some (23, true)⟩, ⟨some 26, .load 1 false (.t 25), some (23, true)⟩, ⟨some 27, .build [.int .i64 0, .bool false, .int .i64 0, .int .u32 0, .int .u32 0, .int .u64 0, .int .u64 0, .int .u64 0] [(0, 1, .c (.int .i64 2)), (1, 1, .c (.bool true)), (2, 1, .t 26)], some (23, true)⟩, ⟨some 28, .eqv (.a [.i, .b, .i, .i, .i, .i, .i, .i]) false (.t 24) (.t 27), some (23, true)⟩, ⟨some 29, .pick (.t 23) (.t 28) (.c (.bool false)), none⟩, ⟨some 4, .mov (.t 29), none⟩]) .ret) (.seq (.reg [⟨some 31, .bin .eql (.t 12) (.c (.int .i64 1)), none⟩, ⟨some 30, .mov (.t 31), none⟩]) (.cond (.t 30) (.seq (.reg [⟨some 32, .faddr 2 (.t 2), none⟩, ⟨some 33, .load 1 false (.t 32), none⟩, ⟨some 34, .call 66 [.t 33], none⟩, ⟨some 35, .mov (.t 34), none⟩, ⟨some 36, .faddr 3 (.t 2), some (35, true)⟩, ⟨some 37, .faddr 1 (.t 36), some (35, true)⟩, ⟨some 38, .load 1 false (.t 37), some (35, true)⟩, ⟨some 39, .mov (.t 1), some (35, true)⟩, ⟨some 40, .conv .u32 (.t 39), some (35, true)⟩, ⟨some 41, .bin .eql (.t 38) (.t 40), some (35, true)⟩, ⟨some 42, .pick (.t 35) (.t 41) (.c (.bool false)), none⟩, ⟨some 43, .mov (.t 42), none⟩, ⟨some 44, .faddr 3 (.t 2), some (43, true)⟩, ⟨some 45, .faddr 0 (.t 44), some (43, true)⟩, ⟨some 46, .load 1 false (.t 45), some (43, true)⟩, ⟨some 47, .bin .gtr (.t 46) (.c (.int .u32 0)), some (43, true)⟩, ⟨some 48, .pick (.t 43) (.t 47) (.c (.bool false)), none⟩, ⟨some 4, .mov (.t 48), none⟩]) .ret) .skip)))))))) (.seq (.reg [⟨some 4, .mov (.c (.bool false)), none⟩]) .ret)))
theorem is_leaf_Is : FnIs Tryz.prog 38 49 c_leaf_Is [.t 4] := ⟨Tryz.f38, _, Tryz.func38, rfl, rfl, by kernel_rfl, by kernel_rfl⟩

def c_leaf_isLba : CC := .seq (.reg [⟨some 2, .mov (.c (.bool false)), none⟩]) (.seq (.reg [⟨some 3, .mov (.t 0), none⟩, ⟨some 4, .bin .geq (.t 3) (.c (.int .i64 0)), none⟩, ⟨some 5, .mov (.t 4), none⟩, ⟨some 6, .mov (.t 0), some (5, true)⟩, ⟨some 7, .bin .lss (.t 6) (.c (.int .i64 32)), some (5, true)⟩, ⟨some 8, .pick (.t 5) (.t 7) (.c (.bool false)), none⟩, ⟨some 2, .mov (.t 8), none⟩]) .ret)
theorem is_leaf_isLba : FnIs Tryz.prog 66 9 c_leaf_isLba [.t 2] := ⟨Tryz.f66, _, Tryz.func66, rfl, rfl, by kernel_rfl, by kernel_rfl⟩

def c_nonce_Maker_Left : CC := .seq (.reg [⟨some 2, .mov (.c (.int .i64 0)), none⟩]) (.seq (.seq (.reg [⟨some 3, .mov (.t 0), none⟩, ⟨some 4, .eqv .p false (.t 3) (.c .nilp), none⟩]) (.cond (.t 4) (.seq (.reg [⟨some 2, .mov (.c (.int .i64 0)), none⟩]) .ret) .skip)) (.seq (.reg [⟨some 5, .mov (.t 0), none⟩, ⟨some 6, .nilck (.t 5), none⟩, ⟨some 7, .faddr 1 (.t 6), none⟩, ⟨some 8, .load 1 false (.t 7), none⟩, ⟨some 9, .bin .sub (.c (.int .i64 100)) (.t 8), none⟩, ⟨some 2, .mov (.t 9), none⟩]) .ret))
theorem is_nonce_Maker_Left : FnIs Tryz.prog 133 10 c_nonce_Maker_Left [.t 2] := ⟨Tryz.f133, _, Tryz.func133, rfl, rfl, by kernel_rfl, by kernel_rfl⟩

def c_nonce_Maker_Next : CC := .seq (.reg [⟨some 6, .alloc [.int .u32 0, .int .u32 0, .int .u64 0], none⟩, ⟨some 7, .mov (.c (.int .i64 0)), none⟩]) (.seq (.block 0 (.seq (.reg [⟨some 9, .mov (.t 2), none⟩, ⟨some 10, .bin .lss (.t 9) (.c (.int .i64 0)), none⟩, ⟨some 11, .mov (.t 10), none⟩, ⟨some 12, .mov (.t 2), some (11, false)⟩, ⟨some 13, .bin .gtr (.t 12) (.c (.int .i64 65535)), some (11, false)⟩, ⟨some 14, .pick (.t 11) (.c (.bool true)) (.t 13), none⟩, ⟨some 8, .mov (.t 14), none⟩]) (.cond (.t 8) (.seq (.reg [⟨some 15, .build [.int .u32 0, .int .u32 0, .int .u64 0] [], none⟩, ⟨none, .store 3 (.t 6) (.t 15), none⟩, ⟨some 7, .mov (.c (.int .i64 1)), none⟩]) .ret) (.seq (.reg [⟨some 17, .mov (.t 0), none⟩, ⟨some 18, .call 133 [.t 17], none⟩, ⟨some 19, .bin .eql (.t 18) (.c (.int .i64 0)), none⟩, ⟨some 16, .mov (.t 19), none⟩]) (.cond (.t 16) (.seq (.reg [⟨some 20, .build [.int .u32 0, .int .u32 0, .int .u64 0] [], none⟩, ⟨none, .store 3 (.t 6) (.t 20), none⟩, ⟨some 7, .mov (.c (.int .i64 6)), none⟩]) .ret) .skip))))) (.seq (.reg [⟨some 21, .mov (.t 0), none⟩, ⟨some 22, .nilck (.t 21), none⟩, ⟨some 23, .faddr 1 (.t 22), none⟩, ⟨some 24, .load 1 false (.t 23), none⟩, ⟨some 25, .bin .add (.t 24) (.c (.int .i64 1)), none⟩, ⟨some 26, .nilck (.t 21), none⟩, ⟨some 27, .faddr 1 (.t 26), none⟩, ⟨none, .store 1 (.t 27) (.t 25), none⟩]) (.seq (.dreg [⟨some 28, .mov (.t 1), none⟩, ⟨some 29, .mov (.t 2), none⟩, ⟨some 30, .conv .u32 (.t 29), none⟩, ⟨some 31, .mov (.t 0), none⟩, ⟨some 32, .nilck (.t 31), none⟩, ⟨some 33, .faddr 0 (.t 32), none⟩, ⟨some 34, .load 1 false (.t 33), none⟩, ⟨some 35, .sh .shl (.t 34) (.c (.int .u64 32)), none⟩, ⟨some 36, .mov (.t 0), none⟩, ⟨some 37, .nilck (.t 36), none⟩, ⟨some 38, .faddr 1 (.t 37), none⟩, ⟨some 39, .load 1 false (.t 38), none⟩, ⟨some 40, .conv .u64 (.t 39), none⟩, ⟨some 41, .bin .add (.t 35) (.t 40), none⟩, ⟨some 42, .build [.int .u32 0, .int .u32 0, .int .u64 0] [(0, 1, .t 28), (1, 1, .t 30), (2, 1, .t 41)], none⟩, ⟨none, .store 3 (.t 6) (.t 42), none⟩, ⟨some 7, .mov (.c (.int .i64 0)), none⟩] [[], [], [1], [], [3], [4], [5], [6], [], [8], [9], [10], [11], [7, 12], [0, 2, 13], [14, 0, 1, 2, 3, 4, 5, 6, 7, 8, 9, 10, 11, 12, 13, 14], [15, 0, 1, 2, 3, 4, 5, 6, 7, 8, 9, 10, 11, 12, 13, 14, 15]]) .ret)))
theorem is_nonce_Maker_Next : FnIs Tryz.prog 171 43 c_nonce_Maker_Next [.cell 6 3 true, .t 7] := ⟨Tryz.f171, _, Tryz.func171, rfl, rfl, by kernel_rfl, by kernel_rfl⟩

def c_nonce_New : CC := .seq (.reg [⟨some 2, .mov (.c .nilp), none⟩, ⟨some 3, .mov (.c (.int .i64 0)), none⟩]) (.seq (.seq (.reg [⟨some 4, .mov (.t 0), none⟩, ⟨some 5, .bin .gtr (.t 4) (.c (.int .u64 4294967295)), none⟩]) (.cond (.t 5) (.seq (.reg [⟨some 2, .mov (.c .nilp), none⟩, ⟨some 3, .mov (.c (.int .i64 1)), none⟩]) .ret) .skip)) (.seq (.reg [⟨some 6, .mov (.t 0), none⟩, ⟨some 7, .build [.int .u64 0, .int .i64 0] [(0, 1, .t 6)], none⟩, ⟨some 8, .box 2 (.t 7), none⟩, ⟨some 2, .mov (.t 8), none⟩, ⟨some 3, .mov (.c (.int .i64 0)), none⟩]) .ret))
theorem is_nonce_New : FnIs Tryz.prog 51 9 c_nonce_New [.t 2, .t 3] := ⟨Tryz.f51, _, Tryz.func51, rfl, rfl, by kernel_rfl, by kernel_rfl⟩

end Go.Proofs.YtafkhpjnihnfpaaGreat


namespace Go.Proofs.YtafkhpjnihnfpaaGreat
open Go Go.Abs

theorem getS_nat (v : Nat) (hv : v < 72057594037927936) (c : UInt8) : getS (v : Int) c = ((v * 256 + c.toNat : Nat) : Int) := by
  have hc := c.toNat_lt
  have h1 : shl64 (v : Int) 8 = ((v * 256 : Nat) : Int) := by
    show ((v : Int) * 256) % 18446744073709551616 = _
    omega
  rw [getS, h1]
  show ((((BitVec.ofInt 64 ((v * 256 : Nat) : Int)) ||| (BitVec.ofInt 64 ((c.toNat : Nat) : Int))).toNat : Nat) : Int) % 18446744073709551616 = _
  rw [BitVec.ofInt_natCast, BitVec.ofInt_natCast, BitVec.toNat_or, BitVec.toNat_ofNat, BitVec.toNat_ofNat, Nat.mod_eq_of_lt (by omega), Nat.mod_eq_of_lt (by omega)]
  have h2 : v * 256 ||| c.toNat = v * 256 + c.toNat := by
    have := Nat.shiftLeft_add_eq_or_of_lt (i := 8) (b := c.toNat) (by omega) v
    rw [Nat.shiftLeft_eq] at this
    exact this.symm
  rw [h2]
  omega
def valB (b : Bs) (v : Nat) : Nat := b.foldl (fun v c => v * 256 + c.toNat) v
theorem getS_val : ∀ (b : Bs) (v k : Nat), v < 256 ^ k → k + b.length ≤ 8 → b.foldl getS (v : Int) = (valB b v : Int) ∧ valB b v < 256 ^ (k + b.length)
  | [], v, k, hv, _ => ⟨rfl, hv⟩
  | c :: r, v, k, hv, hk => by
    simp only [List.length_cons] at hk
    have hc := c.toNat_lt
    have h7 : 256 ^ k ≤ 256 ^ 7 := Nat.pow_le_pow_right (by decide) (by omega)
    have h8 : (256 : Nat) ^ 7 = 72057594037927936 := by decide
    rw [List.foldl_cons, getS_nat v (by omega) c]
    have h9 : v * 256 + c.toNat < 256 ^ (k + 1) := by rw [Nat.pow_succ]; omega
    have := getS_val r (v * 256 + c.toNat) (k + 1) h9 (by omega)
    simp only [valB, List.foldl_cons, List.length_cons] at this ⊢
    rw [show k + (r.length + 1) = k + 1 + r.length by omega]
    exact this
theorem getB_val (b : Bs) (hb : b.length ≤ 8) : getB b = (valB b 0 : Int) ∧ valB b 0 < 256 ^ b.length := by
  have := getS_val b 0 0 (by decide) (by omega)
  rw [Nat.zero_add] at this
  exact this
theorem byteOf_toNat (v : Int) (n i : Nat) : ((byteOf v n i).toNat : Int) = (v / 2 ^ (8 * (n - 1 - i))) % 256 := by
  rw [byteOf, UInt8.toNat_ofNat']
  have h5 := Int.emod_nonneg (v / 2 ^ (8 * (n - 1 - i))) (show (256 : Int) ≠ 0 by decide)
  have h6 := Int.emod_lt_of_pos (v / 2 ^ (8 * (n - 1 - i))) (show (0 : Int) < 256 by decide)
  omega
theorem putB_lenN (v : Int) (n : Nat) (hn : 1 ≤ n ∧ n ≤ 8) : (putB v n).length = n := by
  rw [putB, if_neg (by omega)]; simp
theorem get_put1 (v : Int) (hv : 0 ≤ v ∧ v < 256) : getB (putB v 1) = v := by
  have hl := putB_lenN v 1 (by decide)
  rw [(getB_val _ (by omega)).1]
  have h0 := byteOf_toNat v 1 0
  simp only [Nat.reduceSub, Nat.reduceMul, Nat.sub_zero, Int.reducePow] at h0
  simp only [putB, show ¬ ((1 : Nat) < 1 ∨ 8 < 1) by decide, if_false, valB, List.range, List.range.loop, List.map_cons, List.map_nil, List.foldl_cons, List.foldl_nil]
  omega
theorem get_put2 (v : Int) (hv : 0 ≤ v ∧ v < 65536) : getB (putB v 2) = v := by
  have hl := putB_lenN v 2 (by decide)
  rw [(getB_val _ (by omega)).1]
  have h0 := byteOf_toNat v 2 0
  have h1 := byteOf_toNat v 2 1
  simp only [Nat.reduceSub, Nat.reduceMul, Nat.sub_zero, Int.reducePow] at h0 h1
  simp only [putB, show ¬ ((2 : Nat) < 1 ∨ 8 < 2) by decide, if_false, valB, List.range, List.range.loop, List.map_cons, List.map_nil, List.foldl_cons, List.foldl_nil]
  omega
theorem get_put4 (v : Int) (hv : 0 ≤ v ∧ v < 4294967296) : getB (putB v 4) = v := by
  have hl := putB_lenN v 4 (by decide)
  rw [(getB_val _ (by omega)).1]
  have h0 := byteOf_toNat v 4 0
  have h1 := byteOf_toNat v 4 1
  have h2 := byteOf_toNat v 4 2
  have h3 := byteOf_toNat v 4 3
  simp only [Nat.reduceSub, Nat.reduceMul, Nat.sub_zero, Int.reducePow] at h0 h1 h2 h3
  simp only [putB, show ¬ ((4 : Nat) < 1 ∨ 8 < 4) by decide, if_false, valB, List.range, List.range.loop, List.map_cons, List.map_nil, List.foldl_cons, List.foldl_nil]
  omega
theorem get_put8 (v : Int) (hv : 0 ≤ v ∧ v < 18446744073709551616) : getB (putB v 8) = v := by
  have hl := putB_lenN v 8 (by decide)
  rw [(getB_val _ (by omega)).1]
  have h0 := byteOf_toNat v 8 0
  have h1 := byteOf_toNat v 8 1
  have h2 := byteOf_toNat v 8 2
  have h3 := byteOf_toNat v 8 3
  have h4 := byteOf_toNat v 8 4
  have h5 := byteOf_toNat v 8 5
  have h6 := byteOf_toNat v 8 6
  have h7 := byteOf_toNat v 8 7
  simp only [Nat.reduceSub, Nat.reduceMul, Nat.sub_zero, Int.reducePow] at h0 h1 h2 h3 h4 h5 h6 h7
  simp only [putB, show ¬ ((8 : Nat) < 1 ∨ 8 < 8) by decide, if_false, valB, List.range, List.range.loop, List.map_cons, List.map_nil, List.foldl_cons, List.foldl_nil]
  omega
theorem pairF_B (p : Pr) (h1 : 0 ≤ p.1 ∧ p.1 < 18446744073709551616) (h2 : 0 ≤ p.2 ∧ p.2 < 18446744073709551616) : pairF (pairB p) = p := by
  simp only [pairF, pairB]
  rw [List.take_left' (by simp), List.drop_left' (by simp), get_put8 _ h1, get_put8 _ h2]
theorem clo_imm {n : Nat} {l : List Bs} {N : Nat → Prop} : ∀ x ∈ l.map encR, ∀ v ∈ x, Clo N v := fun x hx v hv => by
  obtain ⟨b, _, rfl⟩ := List.mem_map.1 hx
  simp only [encR, List.mem_singleton] at hv
  subst hv
  exact .imm _ _ fun y hy u hu => by
    obtain ⟨c, _, rfl⟩ := List.mem_map.1 hy
    exact clo_flat (by simp only [encB, List.mem_singleton] at hu; subst hu; rfl)
end Go.Proofs.YtafkhpjnihnfpaaGreat


namespace Go.Proofs.YtafkhpjnihnfpaaGreat
open Go Go.Abs

theorem gcmB_len (key : Pr) (n : Nn) (data : Bs) : (gcmB key n data).length = data.length := by rw [gcmB, xorB_len (flowF_len _ _)]
attribute [local irreducible] encF mulF addF evalF pairsF subF flowF tagF xorB
theorem gcmO_T {key : Pr} {n : Nn} {head b : Bs} {tg : Pr} (h1 : head.length ≤ 4000) (h2 : b.length ≤ 4000) (ht : gcmT key n head b = tg) : gcmO key n head b tg = some (gcmB key n b) := by rw [gcmO, if_pos ⟨h1, h2, ht⟩]
end Go.Proofs.YtafkhpjnihnfpaaGreat


namespace Go.Proofs.YtafkhpjnihnfpaaGreat
open Go Go.Abs

attribute [local irreducible] encF
def sumS6 (s : Pr) (r : Bs) : Pr := stepF s (pairF r)
theorem digestF_S (p : Bs) : digestF p = (rowsF (padF p)).foldl sumS6 (7640891576956012808, 13503953896175478587) := rfl
attribute [local irreducible] stepF pairF
end Go.Proofs.YtafkhpjnihnfpaaGreat


