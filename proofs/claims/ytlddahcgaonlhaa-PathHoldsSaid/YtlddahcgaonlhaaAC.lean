/- The abstract layer, texts 23 to 30 in one. -/
import Derived.Test.YtlddahcgaonlhaaAB
import Derived.MapKept
import Derived.Laws.IdiomStrings
import Derived.Lib.AppendZeros
import Derived.Lib.SlBytesConst
import Derived.Room.MakeNoZero
set_option linter.all false
/- The abstract layer, part 23: operations beyond the plain ones: maps. -/
namespace Go.Abs
open Go

section
variable {P : Program} {N : Nat} {e e' : Env} {h h' : AHeap} {l : List CI} {Q : Exit → Env → AHeap → Prop}

/-- An operation beyond the plain ones: what it does, in any surrounding that has its slots. -/
def XOK (P : Program) (N : Nat) (x : Ex) (e : Env) (h : AHeap) (r : Option AV) (f : Eff) : Prop :=
  ∀ (o : Oper), compileX P N o = some x → ∀ e2, (∀ s ∈ xslots x, lk s e2 = lk s e) → ∀ (m : Inj) (w : World) (a : Act), HR m h w → ER N m h w e2 a → OpOK P o a m h w h.next r f

theorem FX.raw {d : Option Nat} {x : Ex} {g : Option (Nat × Bool)} {r : Option AV} {f : Eff} (hx : XOK P N x e h r f) (hg : met e g) : FX P N ⟨d, .raw x, g⟩ e h r (f.on h.next h) := by
  intro ops i o ho hc e2 hs m w a K Q hr he hk
  have hraw := compI_raw hc rfl
  rcases compI_ok hc with ⟨hb1, hb2⟩ | ⟨hd, hdst, _, hgd⟩
  · cases hb1
  · obtain ⟨w1, w2⟩ := wanted_of he hgd
    have hi : ∀ s ∈ xslots x, lk s e2 = lk s e := fun s h => hs s (by unfold cslots; split <;> simp [islots, h])
    have hw : Region.wanted o (yielded ops a.tmps) = true := by
      cases g with
      | none => exact w1 rfl
      | some sb =>
        obtain ⟨s, b⟩ := sb
        have hl : lk s e2 = some (.bool b) := (hs s (by simp [cslots])).trans hg
        rw [w2 s b b rfl hl]; simp
    simp only [wpOp, ho]
    rw [if_pos hw]
    left
    obtain ⟨m', w', hr', st, hres⟩ := hx o hraw e2 hi m w a hr he
    have hd' : d = o.dst := hd
    unfold Oper.wp
    cases r with
    | some v =>
      obtain ⟨cv, hrun, hv⟩ := hres
      rw [hrun, Oper.upon_value]
      refine hk m' w' _ hr' ?_ st
      show ER N m' _ w' (putR d (some v) e2) _
      rw [hd']
      exact (he.step st).putR hdst hv
    | none =>
      rw [hres, Oper.upon_skip]
      refine hk m' w' _ hr' ?_ st
      show ER N m' _ w' (putR d none e2) _
      rw [hd']
      exact (he.step st).skipR _ _
/-- One operation of a region in the text's order. -/
theorem AL.fx {c : CI} {r : Option AV} (hx : FX P N c e h r h') (hrest : AL P N l Q (putR c.d r e) h') : AL P N (c :: l) Q e h := by
  intro ops idx hlt hl m w a hr he
  cases idx with
  | nil => simp at hl
  | cons i idx =>
    simp only [List.map_cons, List.cons.injEq] at hl
    obtain ⟨hc, hl⟩ := hl
    have hilt := hlt i (by simp)
    have ho : ops[i]? = some ops[i] := Array.getElem?_eq_getElem hilt
    have hget : ops.getD i default = ops[i] := by simp [hilt]
    rw [hget] at hc
    rw [wpOps_cons]
    refine hx ops i _ ho hc e (fun _ _ => rfl) m w a _ _ hr he fun m' w' a' h1 h2 h3 => ?_
    exact wpOps_mono (fun _ _ _ hp => PA.from h3 hp) idx _ _ (hrest ops idx (fun j hj => hlt j (by simp [hj])) hl m' w' a' h1 h2)

theorem cx_mkmap {o : Oper} (hc : compileX P N o = some .mkmap) : ∃ t, o.op = .makeMap t none := by
  unfold compileX at hc
  split at hc
  all_goals first
    | exact ⟨_, ‹_›⟩
    | (repeat' split at hc
       all_goals first
         | (cases hc; done)
         | (rw [Option.map_eq_some_iff] at hc; obtain ⟨_, _, h⟩ := hc; cases h; done) | contradiction)
theorem XOK.mkmap : XOK P N .mkmap e h (some (.map h.next)) (.new (.map [])) := by
  intro o hc e2 hs m w a hr he
  obtain ⟨t, hop⟩ := cx_mkmap hc
  have hf := next_fresh hr
  have hOR : OR (upd m h.next (some (w.heap.size, 0))) (h.put h.next (.map [])) (w.alloc (.map #[] 0)) h.next (.map []) :=
    ⟨w.heap.size, #[], 0, by simp [upd], (MapKept.heap_alloc w _).1, rfl, by simp⟩
  refine ⟨_, _, hr.put hf (o := .map #[] 0) (t := 0) hOR, step_put hr hf _ _ _, .map (some w.heap.size), ?_, .map _ _ put_used_nm fun _ _ => by simp [upd]⟩
  simp [execOp, hop, Instr.makeMap]

/-! ### looking up -/
def sameK : AV → AV → Option Bool
  | .int k a, .int k' b => if k = k' then some (a == b) else none
  | .str a, .str b => some (a == b)
  | _, _ => none
def findA (k : AV) : List (AV × AV) → Nat → Option (Option (Nat × AV))
  | [], _ => some none
  | (k', v) :: es, i => match sameK k k' with
    | some true => some (some (i, v))
    | some false => findA k es (i + 1)
    | none => none
/-- A map's entries, told. -/
def EntR (m : Inj) (h : AHeap) (w : World) : List (AV × AV) → List MapEntry → Prop
  | [], [] => True
  | (k, v) :: es, c :: cs => VR m h w k c.key ∧ VR m h w v c.val ∧ EntR m h w es cs
  | _, _ => False
def FindR (m : Inj) (h : AHeap) (w : World) : Option (Nat × AV) → Option (Nat × Value) → Prop
  | none, none => True
  | some (i, v), some (j, c) => i = j ∧ VR m h w v c
  | _, _ => False

theorem entR_of {m : Inj} {w : World} : ∀ {es : List (AV × AV)} {cs : List MapEntry}, es.length = cs.length → (∀ (i : Nat) (k v : AV), es[i]? = some (k, v) → VR m h w k (cs.getD i default).key ∧ VR m h w v (cs.getD i default).val) → EntR m h w es cs
  | [], [], _, _ => trivial
  | [], _ :: _, hl, _ => by simp at hl
  | _ :: _, [], hl, _ => by simp at hl
  | (k, v) :: es, c :: cs, hl, hv => ⟨(hv 0 k v rfl).1, (hv 0 k v rfl).2, entR_of (by simpa using hl) fun i k v hi => by simpa using hv (i + 1) k v (by simpa using hi)⟩

def kOK : TypeDesc → AV → Prop
  | .string, .str _ => True
  | .int _, .int _ _ => True
  | _, _ => False
theorem sameNow_of {m : Inj} {w : World} {d : TypeDesc} (hd : d = .string ∨ ∃ k, d = .int k) {a b : AV} {ca cb : Value} (ha : VR m h w a ca) (hb : VR m h w b cb) {r : Bool} (hk : kOK d a) (hs : sameK a b = some r) : Instr.sameNow d ca cb = some r := by
  rcases hd with rfl | ⟨k, rfl⟩
  · cases a <;> simp only [kOK] at hk
    cases b <;> simp only [sameK] at hs <;> try (cases hs; done)
    cases ha; cases hb
    rename_i x y
    simp only [Instr.sameNow]
    injection hs with hs
    rw [← hs]
    congr 1
    by_cases e : x = y
    · subst e; rw [(MapKept.bytes_beq _ _).2 rfl]; simp
    · have e1 : (x == y) = false := by simp [e]
      rw [e1]
      cases e2 : ((⟨x.toArray⟩ : ByteArray) == ⟨y.toArray⟩)
      · rfl
      · have := (MapKept.bytes_beq _ _).1 e2
        injection this with this
        exact absurd (by simpa using congrArg Array.toList this) e
  · cases a <;> simp only [kOK] at hk
    cases b <;> simp only [sameK] at hs <;> try (cases hs; done)
    cases ha; cases hb
    simp only [Instr.sameNow]
    exact hs
theorem findNow_of {m : Inj} {w : World} {d : TypeDesc} (hd : d = .string ∨ ∃ k, d = .int k) {a : AV} {ca : Value} (ha : VR m h w a ca) (hk : kOK d a) :
    ∀ {es : List (AV × AV)} {cs : List MapEntry} {i : Nat} {r : Option (Nat × AV)}, EntR m h w es cs → findA a es i = some r → ∃ rr, Instr.findNow d ca cs i = some rr ∧ FindR m h w r rr
  | [], [], i, r, _, hf => by cases hf; exact ⟨none, rfl, trivial⟩
  | [], _ :: _, _, _, he, _ => he.elim
  | _ :: _, [], _, _, he, _ => he.elim
  | (k, v) :: es, c :: cs, i, r, ⟨h1, h2, h3⟩, hf => by
    simp only [findA] at hf
    split at hf
    · rename_i hs
      cases hf
      exact ⟨some (i, c.val), by simp only [Instr.findNow, sameNow_of hd ha h1 hk hs], rfl, h2⟩
    · rename_i hs
      obtain ⟨rr, q1, q2⟩ := findNow_of hd ha hk h3 hf
      exact ⟨rr, by simp only [Instr.findNow, sameNow_of hd ha h1 hk hs, q1], q2⟩
    · cases hf

theorem cx_look {o : Oper} {mk : MK} {z : AV} {ok : Bool} {x y : Opd} (hc : compileX P N o = some (.look mk z ok x y)) :
    ∃ t kt et mo ko i zv, o.op = .lookup t mo ko ok ∧ P.underlying t = some (.map kt et) ∧ ofOpd N mo = some x ∧ ofOpd N ko = some y ∧ mkind P kt = some mk ∧ P.info? et = some i ∧ i.zero = some zv ∧ ofV zv = some z := by
  unfold compileX at hc
  split at hc
  case h_2 t mo ko ok' hop =>
    repeat' split at hc
    all_goals first
      | (cases hc; done)
      | (cases hc; exact ⟨_, _, _, _, _, _, _, hop, ‹_›, ‹_›, ‹_›, ‹_›, ‹_›, ‹_›, ‹_›⟩)
  all_goals
    (repeat' split at hc
     all_goals first
       | (cases hc; done)
       | (rw [Option.map_eq_some_iff] at hc; obtain ⟨_, _, h⟩ := hc; cases h; done) | contradiction)

/-- What a lookup answers. -/
def lookR (z : AV) (ok : Bool) (r : Option (Nat × AV)) : AV :=
  if ok then .tup [(r.map (·.2)).getD z, .bool r.isSome] else (r.map (·.2)).getD z
def keyOK : MK → AV → Prop
  | .i, .int _ _ => True
  | .s, .str _ => True
  | _, _ => False
theorem mkind_i {t : TypeId} (hk : mkind P t = some .i) : ∃ k, P.underlying t = some (.int k) := by
  unfold mkind at hk
  repeat' split at hk
  all_goals first
    | exact ⟨_, ‹_›⟩
    | (rw [Option.map_eq_some_iff] at hk; obtain ⟨_, _, h⟩ := hk; cases h; done)
    | (cases hk; done)
theorem mkind_s {t : TypeId} (hk : mkind P t = some .s) : P.underlying t = some .string := by
  unfold mkind at hk
  repeat' split at hk
  all_goals first
    | assumption
    | (rw [Option.map_eq_some_iff] at hk; obtain ⟨_, _, h⟩ := hk; cases h; done)
    | (cases hk; done)
theorem mkey {m : Inj} {w : World} {mk : MK} {t : TypeId} {a : AV} (hk : mkind P t = some mk) (ha : keyOK mk a) : ∃ d, P.underlying t = some d ∧ (d = .string ∨ ∃ k, d = .int k) ∧ kOK d a := by
  cases mk with
  | i => obtain ⟨k, hu⟩ := mkind_i hk; exact ⟨_, hu, .inr ⟨k, rfl⟩, by cases a <;> simp [keyOK, kOK] at ha ⊢⟩
  | s => exact ⟨_, mkind_s hk, .inl rfl, by cases a <;> simp [keyOK, kOK] at ha ⊢⟩
  | a ks => cases a <;> simp [keyOK] at ha

theorem isKey_of {m : Inj} {w : World} {d : TypeDesc} {a : AV} {c : Value} (hv : VR m h w a c) (hk : kOK d a) (hd : d = .string ∨ ∃ k, d = .int k ∧ ∀ k' n, a = .int k' n → k' = k) : MapKept.IsKey d c := by
  rcases hd with rfl | ⟨k, rfl, hk2⟩
  · cases a <;> simp only [kOK] at hk; cases hv; trivial
  · cases a <;> simp only [kOK] at hk; cases hv; exact hk2 _ _ rfl
theorem map_obj {m : Inj} {w : World} (hr : HR m h w) {id : Nat} {es : List (AV × AV)} (hg : h.get id = some (.map es)) {c : Value} (hv : VR m h w (.map id) c) :
    ∃ (b : Nat) (ens : Array MapEntry) (ck : Nat), c = .map (some b) ∧ m id = some (b, 0) ∧ w.heap[b]? = some (.map ens ck) ∧ es.length = ens.size ∧ EntR m h w es ens.toList := by
  cases hv with
  | map _ r hu ha =>
    obtain ⟨b, ens, ck, q1, q2, q3, q4⟩ := hr.obj _ _ hg
    have := ha es hg
    rw [q1] at this
    cases this
    refine ⟨_, ens, ck, rfl, q1, q2, q3, entR_of (by simpa using q3) fun i k v hi => ?_⟩
    have := q4 i k v hi
    simpa [Array.getD_eq_getD_getElem?, List.getD_eq_getElem?_getD] using this

theorem run_checkKey0 {w : World} {kt : TypeId} {d : TypeDesc} {c : Value} (hd : P.underlying kt = some d) (hk : d = .string ∨ ∃ k, d = .int k) (em : Bool) (n : Nat) : (Instr.checkKey em (n + 1) kt c).run P w = .ok () w := by
  rcases hk with rfl | ⟨k, rfl⟩ <;> cases c <;> simp [Instr.checkKey, run_underlying hd]
theorem XOK.look {mk : MK} {z : AV} {ok : Bool} {x y : Opd} {id : Nat} {a : AV} {es : List (AV × AV)} {r : Option (Nat × AV)} (hx : ev e x = some (.map id)) (hy : ev e y = some a) (hg : h.get id = some (.map es)) (hk : keyOK mk a) (hf : findA a es 0 = some r) :
    XOK P N (.look mk z ok x y) e h (some (lookR z ok r)) .none := by
  intro o hc e2 hs m w act hr he
  obtain ⟨t, kt, et, mo, ko, i, zv, hop, hu, h1, h2, hmk, hi, hz, hzv⟩ := cx_look hc
  have hx2 : ev e2 x = some (.map id) := (ev_congr fun s h => hs s (by simp [xslots, h])).trans hx
  have hy2 : ev e2 y = some a := (ev_congr fun s h => hs s (by simp [xslots, h])).trans hy
  have vm := he.eval h1 hx2
  have vk := he.eval h2 hy2
  obtain ⟨b, ens, ck, e1, _, hb, hlen, hent⟩ := map_obj hr hg vm
  obtain ⟨d, hd, hd2, hd3⟩ := mkey (m := m) (w := w) hmk hk
  obtain ⟨rr, hfn, hfr⟩ := findNow_of hd2 vk hd3 hent hf
  have vz : VR m h w z zv := ofV_vr hzv
  have hzr : (zeroValue et).run P w = .ok zv w := by simp [zeroValue, run_typeInfo' hi, hz]
  have hck := run_checkKey0 (w := w) (c := act.eval ko) hd hd2 ens.isEmpty 9999
  have hfk := MapKept.run_findKey (w := w) hd hfn
  have key : ∃ cv, (Instr.lookup t (act.eval mo) (act.eval ko) ok).run P w = .ok cv w ∧ VR m h w (lookR z ok r) cv := by
    rw [e1]
    cases r with
    | none =>
      cases rr with
      | some _ => exact hfr.elim
      | none =>
        refine ⟨if ok then .tuple #[zv, .bool false] else zv, by simp [Instr.lookup, run_underlying hu, MapKept.run_getObj_map hb, hck, hfk, hzr], ?_⟩
        cases ok
        · exact vz
        · refine .tup _ _ rfl fun j v hj => ?_
          rcases j with _ | _ | j
          · cases hj; exact vz
          · cases hj; exact .bool false
          · simp at hj
    | some iv =>
      cases rr with
      | none => exact hfr.elim
      | some jc =>
        obtain ⟨q1, q2⟩ := hfr
        refine ⟨if ok then .tuple #[jc.2, .bool true] else jc.2, by simp [Instr.lookup, run_underlying hu, MapKept.run_getObj_map hb, hck, hfk], ?_⟩
        cases ok
        · exact q2
        · refine .tup _ _ rfl fun j v hj => ?_
          rcases j with _ | _ | j
          · cases hj; exact q2
          · cases hj; exact .bool true
          · simp at hj
  obtain ⟨cv, hrun, hv⟩ := key
  exact OpOK.pure hr (by simp [execOp, hop, hrun]) hv

/-! ### writing -/
theorem findNow_at {d : TypeDesc} {ca : Value} : ∀ (cs : List MapEntry) (i j : Nat) (c : Value), Instr.findNow d ca cs i = some (some (j, c)) → ∃ n e, j = i + n ∧ cs[n]? = some e ∧ Instr.sameNow d ca e.key = some true
  | [], i, j, c, hf => by simp [Instr.findNow] at hf
  | x :: cs, i, j, c, hf => by
    simp only [Instr.findNow] at hf
    split at hf
    · rename_i hs
      cases hf
      exact ⟨0, x, rfl, rfl, hs⟩
    · obtain ⟨n, e, h1, h2, h3⟩ := findNow_at cs (i + 1) j c hf
      exact ⟨n + 1, e, by omega, by simpa using h2, h3⟩
    · cases hf
theorem sameNow_eq {d : TypeDesc} (hd : d = .string ∨ ∃ k, d = .int k) {x y : Value} (hs : Instr.sameNow d x y = some true) : y = x ∧ ∀ n, Instr.sameBits n x x = true := by
  rcases hd with rfl | ⟨k, rfl⟩
  · cases x <;> cases y <;> simp [Instr.sameNow] at hs
    exact ⟨by rw [(MapKept.bytes_beq _ _).1 hs], fun n => by simp [Instr.sameBits, (MapKept.bytes_beq _ _).2 rfl]⟩
  · cases x <;> cases y <;> simp [Instr.sameNow] at hs
    obtain ⟨h1, h2⟩ := hs
    subst h1; subst h2
    exact ⟨rfl, fun n => by simp [Instr.sameBits]⟩
def putM (es : List (AV × AV)) (a v : AV) : Option (Nat × AV) → List (AV × AV)
  | none => es ++ [(a, v)]
  | some (i, _) => es.set i (a, v)
theorem cx_mput {o : Oper} {mk : MK} {x y v : Opd} (hc : compileX P N o = some (.mput mk x y v)) :
    ∃ t kt et mo ko vo, (o.op = .mapUpdate t mo ko vo ∨ o.op = .insert t mo ko vo) ∧ P.underlying t = some (.map kt et) ∧ ofOpd N mo = some x ∧ ofOpd N ko = some y ∧ ofOpd N vo = some v ∧ mkind P kt = some mk := by
  unfold compileX at hc
  split at hc
  case h_3 t mo ko vo hop =>
    split at hc
    · rw [Option.map_eq_some_iff] at hc
      obtain ⟨mk', h1, h2⟩ := hc
      cases h2
      exact ⟨_, _, _, _, _, _, .inl hop, ‹_›, ‹_›, ‹_›, ‹_›, h1⟩
    · cases hc
  case h_4 t mo ko vo hop =>
    split at hc
    · rw [Option.map_eq_some_iff] at hc
      obtain ⟨mk', h1, h2⟩ := hc
      cases h2
      exact ⟨_, _, _, _, _, _, .inr hop, ‹_›, ‹_›, ‹_›, ‹_›, h1⟩
    · cases hc
  all_goals
    (repeat' split at hc
     all_goals first
       | (cases hc; done)
       | (rw [Option.map_eq_some_iff] at hc; obtain ⟨_, _, h⟩ := hc; cases h; done) | contradiction)

theorem WUpd.map {w : World} {b : Nat} {ens ens' : Array MapEntry} {ck ck' : Nat} (hb : w.heap[b]? = some (.map ens ck)) : WUpd w { w with heap := w.heap.setIfInBounds b (.map ens' ck') } b :=
  ⟨rfl, rfl, rfl, by simp, fun k hk => (MapKept.heap_set hb).2 k hk, fun cc T fz h => by rw [hb] at h; cases h⟩
theorem XOK.mput {mk : MK} {x y z : Opd} {id : Nat} {a v : AV} {es : List (AV × AV)} {r : Option (Nat × AV)} (hx : ev e x = some (.map id)) (hy : ev e y = some a) (hz : ev e z = some v) (hg : h.get id = some (.map es)) (hk : keyOK mk a) (hf : findA a es 0 = some r) :
    XOK P N (.mput mk x y z) e h none (.set id (.map (putM es a v r))) := by
  intro o hc e2 hs m w act hr he
  obtain ⟨t, kt, et, mo, ko, vo, hop, hu, h1, h2, h3, hmk⟩ := cx_mput hc
  have hx2 : ev e2 x = some (.map id) := (ev_congr fun s h => hs s (by simp [xslots, h])).trans hx
  have hy2 : ev e2 y = some a := (ev_congr fun s h => hs s (by simp [xslots, h])).trans hy
  have hz2 : ev e2 z = some v := (ev_congr fun s h => hs s (by simp [xslots, h])).trans hz
  have vm := he.eval h1 hx2
  have vk := he.eval h2 hy2
  have vv := he.eval h3 hz2
  obtain ⟨b, ens, ck, e1, hmb, hb, hlen, hent⟩ := map_obj hr hg vm
  obtain ⟨_, ens0, ck0, p1, p2, p3, p4⟩ := hr.obj _ _ hg
  rw [hmb] at p1; cases p1
  rw [hb] at p2; cases p2
  obtain ⟨d, hd, hd2, hd3⟩ := mkey (m := m) (w := w) hmk hk
  obtain ⟨rr, hfn, hfr⟩ := findNow_of hd2 vk hd3 hent hf
  have hck := run_checkKey0 (w := w) (c := act.eval ko) hd hd2 false 9999
  have hfk := MapKept.run_findKey (w := w) hd hfn
  have key : ∃ ens' ck', (Instr.mapUpdate t (act.eval mo) (act.eval ko) (act.eval vo)).run P w = .ok () { w with heap := w.heap.setIfInBounds b (.map ens' ck') } ∧ (putM es a v r).length = ens'.size ∧
      ∀ (i : Nat) (k u : AV), (putM es a v r)[i]? = some (k, u) → VR m h w k (ens'.getD i default).key ∧ VR m h w u (ens'.getD i default).val := by
    rw [e1]
    cases r with
    | none =>
      cases rr with
      | some _ => exact hfr.elim
      | none =>
        refine ⟨ens.push { key := act.eval ko, val := act.eval vo, born := ck }, ck + 1, by simp [Instr.mapUpdate, run_underlying hu, MapKept.run_getObj_map hb, hck, hfk, MapKept.run_setObj_map _ hb, Result.andThen], by simp [putM, hlen], fun i k u hi => ?_⟩
        simp only [putM] at hi
        by_cases hlt : i < es.length
        · rw [List.getElem?_append_left hlt] at hi
          have := p4 i k u hi
          have h5 : (ens.push { key := act.eval ko, val := act.eval vo, born := ck }).getD i default = ens.getD i default := by
            simp [Array.getD_eq_getD_getElem?, Array.getElem?_push_lt (show i < ens.size by omega), show i < ens.size by omega]
          rw [h5]; exact this
        · have hi2 := (List.getElem?_eq_some_iff.1 hi).1
          simp at hi2
          have : i = es.length := by omega
          subst this
          simp at hi
          obtain ⟨rfl, rfl⟩ := hi
          have h5 : (ens.push { key := act.eval ko, val := act.eval vo, born := ck }).getD es.length default = { key := act.eval ko, val := act.eval vo, born := ck } := by
            rw [hlen]; simp [Array.getD_eq_getD_getElem?]
          rw [h5]; exact ⟨vk, vv⟩
    | some iv =>
      cases rr with
      | none => exact hfr.elim
      | some jc =>
        obtain ⟨j, c⟩ := jc
        obtain ⟨i0, v0⟩ := iv
        obtain ⟨q1, q2⟩ := hfr
        subst q1
        obtain ⟨n, en, q3, q4, q5⟩ := findNow_at _ _ _ _ hfn
        have q6 : n = i0 := by omega
        subst q6
        obtain ⟨q7, q8⟩ := sameNow_eq hd2 q5
        have hj : ens[n]? = some en := by simpa using q4
        refine ⟨ens.modify n fun e => { e with key := act.eval ko, val := act.eval vo }, ck, by simp [Instr.mapUpdate, run_underlying hu, MapKept.run_getObj_map hb, hck, hfk, hj, q7, Instr.keyThatStays, q8, MapKept.run_setObj_map _ hb, Result.andThen], by simp [putM, hlen], fun i k u hi => ?_⟩
        simp only [putM] at hi
        by_cases hin : n = i
        · subst hin
          have hlt : n < es.length := by
            have := (List.getElem?_eq_some_iff.1 hi).1
            simpa using this
          rw [List.getElem?_set_self hlt] at hi
          cases hi
          have h5 : (ens.modify n fun e => { e with key := act.eval ko, val := act.eval vo }).getD n default = { en with key := act.eval ko, val := act.eval vo } := by
            simp [Array.getD_eq_getD_getElem?, Array.getElem?_modify, hj]
          rw [h5]; exact ⟨vk, vv⟩
        · rw [List.getElem?_set_ne hin] at hi
          have := p4 i k u hi
          have h5 : (ens.modify n fun e => { e with key := act.eval ko, val := act.eval vo }).getD i default = ens.getD i default := by
            simp [Array.getD_eq_getD_getElem?, Array.getElem?_modify, hin]
          rw [h5]; exact this
  obtain ⟨ens', ck', hrun, hl', hv'⟩ := key
  have wu : WUpd w { w with heap := w.heap.setIfInBounds b (.map ens' ck') } b := WUpd.map hb
  have st := step_set hr hg hmb (x1 := .map (putM es a v r)) trivial wu
  refine ⟨m, _, hr.set (x1 := .map (putM es a v r)) hg hmb trivial wu ⟨b, ens', ck', hmb, (MapKept.heap_set hb).1, hl', fun i k u hi => ⟨(hv' i k u hi).1.step st, (hv' i k u hi).2.step st⟩⟩, st, ?_⟩
  rcases hop with hop | hop <;> simp [execOp, hop, hrun]

theorem cx_mlen {o : Oper} {x : Opd} (hc : compileX P N o = some (.mlen x)) : ∃ c xo t kt et, o.op = .call c ∧ c.callee = .builtin .len ∧ c.args.toList = [xo] ∧ c.argTypes[0]? = some t ∧ P.underlying t = some (.map kt et) ∧ ofOpd N xo = some x := by
  cases hop : o.op <;> simp only [compileX, hop] at hc <;> try (cases hc; done)
  case call c =>
    split at hc
    case h_1 hcal =>
      repeat' split at hc
      all_goals first
        | (cases hc; exact ⟨_, _, _, _, _, rfl, hcal, ‹_›, ‹_›, ‹_›, ‹_›⟩)
        | (cases hc; done)
    all_goals
      (repeat' split at hc
       all_goals (cases hc; done))
  all_goals
    (repeat' split at hc
     all_goals first
       | (cases hc; done)
       | (rw [Option.map_eq_some_iff] at hc; obtain ⟨_, _, h⟩ := hc; cases h; done) | contradiction)
theorem XOK.mlen {x : Opd} {id : Nat} {es : List (AV × AV)} (hx : ev e x = some (.map id)) (hg : h.get id = some (.map es)) : XOK P N (.mlen x) e h (some (.int .i64 es.length)) .none := by
  intro o hc e2 hs m w act hr he
  obtain ⟨c, xo, t, kt, et, hop, hcal, ha, hat, hu, h1⟩ := cx_mlen hc
  have hx2 : ev e2 x = some (.map id) := (ev_congr fun s h => hs s (by simp [xslots, h])).trans hx
  obtain ⟨b, ens, ck, e1, hmb, hb, hlen, hent⟩ := map_obj hr hg (he.eval h1 hx2)
  have ha' : c.args = #[xo] := by rw [← Array.toArray_toList (xs := c.args), ha]
  refine OpOK.pure hr ?_ (.int _ _)
  simp [execOp, hop, resolve, hcal, ha', invoke, builtin, Builtin.len_, hat, e1, run_underlying hu, MapKept.run_getObj_map hb, goInt, hlen]

/-! ### strings as bytes -/
end
end Go.Abs

/- The abstract layer, part 24: operations with several answers; tests for nil, room, rows that are made to be written, marks. -/
namespace Go.Abs
open Go

section
variable {P : Program} {N : Nat} {e e' : Env} {h h' : AHeap} {l : List CI} {Q : Exit → Env → AHeap → Prop}

/-- One operation with several answers. -/
def FQ (P : Program) (N : Nat) (c : CI) (e : Env) (h : AHeap) (R : Option AV → AHeap → Prop) : Prop :=
  ∀ (ops : Array Oper) (i : Nat) (o : Oper), ops[i]? = some o → compI P N ops o = c → ∀ (m : Inj) (w : World) (a : Act) (K : Act → World → Prop) (Q : Exit → Act → World → Prop),
    HR m h w → ER N m h w e a → (∀ r h' m' w' a', R r h' → HR m' h' w' → ER N m' h' w' (putR c.d r e) a' → Step m h w m' h' w' → K a' w') → wpOp P ops Q i K a w
theorem AL.fq {c : CI} {R : Option AV → AHeap → Prop} (hx : FQ P N c e h R) (hrest : ∀ r h', R r h' → AL P N l Q (putR c.d r e) h') : AL P N (c :: l) Q e h := by
  intro ops idx hlt hl m w a hr he
  cases idx with
  | nil => simp at hl
  | cons i idx =>
    simp only [List.map_cons, List.cons.injEq] at hl
    obtain ⟨hc, hl⟩ := hl
    have hilt := hlt i (by simp)
    have ho : ops[i]? = some ops[i] := Array.getElem?_eq_getElem hilt
    have hget : ops.getD i default = ops[i] := by simp [hilt]
    rw [hget] at hc
    rw [wpOps_cons]
    refine hx ops i _ ho hc m w a _ _ hr he fun r h' m' w' a' hR h1 h2 h3 => ?_
    exact wpOps_mono (fun _ _ _ hp => PA.from h3 hp) idx _ _ (hrest r h' hR ops idx (fun j hj => hlt j (by simp [hj])) hl m' w' a' h1 h2)

theorem met_wanted {ops : Array Oper} {o : Oper} {d : Option Nat} {i : Ins} {g : Option (Nat × Bool)} {m : Inj} {w : World} {a : Act} (he : ER N m h w e a) (hg : met e g)
    (hgd : match o.guard with | none => (CI.mk d i g).g = none | some (j, b) => ∃ s, (ops[j]?).bind (·.dst) = some s ∧ (CI.mk d i g).g = some (s, b)) : Region.wanted o (yielded ops a.tmps) = true := by
  obtain ⟨w1, w2⟩ := wanted_of he hgd
  cases g with
  | none => exact w1 rfl
  | some sb =>
    obtain ⟨s, b⟩ := sb
    rw [w2 s b b rfl hg]; simp

/-- An operation, by what it does at the real state. -/
theorem FQ.of {d : Option Nat} {i : Ins} {g : Option (Nat × Bool)} {R : Option AV → AHeap → Prop} (hni : i ≠ .bad) (hg : met e g)
    (hx : ∀ (ops : Array Oper) (o : Oper), compI P N ops o = ⟨d, i, g⟩ → ∀ (m : Inj) (w : World) (a : Act), HR m h w → ER N m h w e a → ∃ r f, R r (f.on h.next h) ∧ OpOK P o a m h w h.next r f) : FQ P N ⟨d, i, g⟩ e h R := by
  intro ops i o ho hc m w a K Q hr he hk
  rcases compI_ok hc with ⟨hb1, hb2⟩ | ⟨hd, hdst, _, hgd⟩
  · exact absurd hb1 hni
  · simp only [wpOp, ho]
    rw [if_pos (met_wanted he hg hgd)]
    left
    obtain ⟨r, f, hR, m', w', hr', st, hres⟩ := hx ops o hc m w a hr he
    have hd' : d = o.dst := hd
    unfold Oper.wp
    cases r with
    | some v =>
      obtain ⟨cv, hrun, hv⟩ := hres
      rw [hrun, Oper.upon_value]
      refine hk _ _ m' w' _ hR hr' ?_ st
      show ER N m' _ w' (putR d (some v) e) _
      rw [hd']
      exact (he.step st).putR hdst hv
    | none =>
      rw [hres, Oper.upon_skip]
      refine hk _ _ m' w' _ hR hr' ?_ st
      show ER N m' _ w' (putR d none e) _
      rw [hd']
      exact (he.step st).skipR _ _
theorem comp_plain {ops : Array Oper} {o : Oper} {d : Option Nat} {i : Ins} {g : Option (Nat × Bool)} (hc : compI P N ops o = ⟨d, i, g⟩) (hp : i.plain = true) : compileOp P N o = some i := by
  rcases compI_ok hc with ⟨hb1, hb2⟩ | ⟨_, _, h3, _⟩
  · have hb : i = .bad := hb1
    subst hb; cases hp
  · exact h3 hp

/-! ### is it nil? -/
theorem run_eq_slice_none {t el : TypeId} {w : World} (ht : P.underlying t = some (.slice el)) (d : Nat) (l c : Nat) : (Op.equalIn (d + 1) t (.slice none l c) (.slice none 0 0)).run P w = .ok true w := by
  simp [Op.equalIn, run_underlying ht]
theorem cx_isnil {o : Oper} {neg : Bool} {x : Opd} (hc : compileOp P N o = some (.isnil neg x)) : ∃ op t u el xo, (op = .eql ∧ neg = false ∨ op = .neq ∧ neg = true) ∧ P.underlying t = some (.slice el) ∧ o.op = .binOp op t xo (.const (.slice none 0 0)) u ∧ ofOpd N xo = some x := by
  cases hop : o.op <;> simp only [compileOp, hop] at hc <;> try (cases hc; done)
  case binOp op t x0 y u =>
    cases op <;> simp only at hc
    all_goals
      repeat' split at hc
    all_goals first
      | (cases hc; done)
      | (cases hc; exact ⟨_, _, _, _, _, .inl ⟨rfl, rfl⟩, ‹_›, rfl, ‹_›⟩)
      | (cases hc; exact ⟨_, _, _, _, _, .inr ⟨rfl, rfl⟩, ‹_›, rfl, ‹_›⟩)
      | (rw [Option.map_eq_some_iff] at hc; obtain ⟨_, _, h⟩ := hc; cases h; done)
  all_goals
    (repeat' split at hc
     all_goals first
       | (cases hc; done)
       | (rw [Option.map_eq_some_iff] at hc; obtain ⟨_, _, h⟩ := hc; cases h; done) | contradiction)
theorem FQ.isnil {d : Option Nat} {neg : Bool} {x : Opd} {g : Option (Nat × Bool)} {c : List (List AV)} {sz : Nat} (hx : ev e x = some (.imm sz c)) (hg : met e g) :
    FQ P N ⟨d, .isnil neg x, g⟩ e h (fun r h' => ∃ b : Bool, r = some (.bool (if neg then !b else b)) ∧ h' = h ∧ (b = true → c = [])) := by
  refine FQ.of (by simp) hg fun ops o hc m w a hr he => ?_
  obtain ⟨op, t, u, el, xo, hop, ht, ho, h1⟩ := cx_isnil (comp_plain hc rfl)
  have e1 := he.eval h1 hx
  have key : ∃ b : Bool, (b = true → c = []) ∧ ∃ l cp ad, a.eval xo = .slice ad l cp ∧ b = ad.isNone := by
    generalize a.eval xo = cx at e1
    cases e1 with
    | imm0 => exact ⟨true, fun _ => rfl, _, _, _, rfl, rfl⟩
    | imm1 => exact ⟨false, fun h => (nomatch h), _, _, _, rfl, rfl⟩
    | imm => exact ⟨false, fun h => (nomatch h), _, _, _, rfl, rfl⟩
  obtain ⟨b, hb, l, cp, ad, hx1, rfl⟩ := key
  refine ⟨_, .none, ⟨ad.isNone, rfl, rfl, hb⟩, ?_⟩
  have heq : (Op.equal t (.slice ad l cp) (.slice none 0 0)).run P w = .ok ad.isNone w := by
    cases ad with
    | none => exact run_eq_slice_none ht 9999 l cp
    | some ad => exact run_eq_slice_nil ht 9999 ad l cp
  have hy : a.eval (.const (.slice none 0 0)) = .slice none 0 0 := rfl
  refine OpOK.pure hr (cv := .bool (if neg then !ad.isNone else ad.isNone)) ?_ (by cases neg <;> exact .bool _)
  rcases hop with ⟨rfl, rfl⟩ | ⟨rfl, rfl⟩
  · simp [execOp, ho, hx1, hy, eqGuard_at_slice, binOp, heq]
  · simp [execOp, ho, hx1, hy, eqGuard_at_slice, binOp, heq]

/-! ### room -/
theorem cx_call {o : Oper} {y : Ex} (hc : compileX P N o = some y) (hy : match y with | .caps _ | .appz _ _ _ _ _ | .callx _ _ | .inv _ _ _ | .clr _ _ _ => True | _ => False) : ∃ c, o.op = .call c := by
  cases hop : o.op <;> simp only [compileX, hop] at hc <;> try (cases hc; done)
  case call c => exact ⟨c, rfl⟩
  all_goals
    (repeat' split at hc
     all_goals first
       | (cases hc; cases hy; done)
       | (cases hc; done)
       | (rw [Option.map_eq_some_iff] at hc; obtain ⟨_, _, h⟩ := hc; subst h; cases hy; done)
       | contradiction)
theorem cx_caps {o : Oper} {x : Opd} (hc : compileX P N o = some (.caps x)) : ∃ c xo t el, o.op = .call c ∧ c.callee = .builtin .cap ∧ c.args.toList = [xo] ∧ c.argTypes[0]? = some t ∧ P.underlying t = some (.slice el) ∧ ofOpd N xo = some x := by
  obtain ⟨c, hop⟩ := cx_call hc trivial
  simp only [compileX, hop] at hc
  split at hc
  case h_2 hcal =>
    repeat' split at hc
    all_goals first
      | (cases hc; exact ⟨_, _, _, _, hop, hcal, ‹_›, ‹_›, ‹_›, ‹_›⟩)
      | (cases hc; done)
  all_goals
    (repeat' split at hc
     all_goals (cases hc; done))
theorem XOK.caps0 {x : Opd} (hx : ev e x = some .nils) : XOK P N (.caps x) e h (some (.int .i64 0)) .none := by
  intro o hc e2 hs m w act hr he
  obtain ⟨c, xo, t, el, hop, hcal, ha, hat, hu, h1⟩ := cx_caps hc
  have hx2 : ev e2 x = some .nils := (ev_congr fun s h => hs s (by simp [xslots, h])).trans hx
  have ha' : c.args = #[xo] := by rw [← Array.toArray_toList (xs := c.args), ha]
  have e1 := he.eval h1 hx2
  generalize hcx : act.eval xo = cx at e1
  refine OpOK.pure hr (cv := .int .i64 0) ?_ (.int _ _)
  cases e1 <;> simp [execOp, hop, resolve, hcal, ha', invoke, builtin, Builtin.cap_, hat, hcx, run_underlying hu, goInt]

theorem cx_appz {o : Oper} {sz bytes : Nat} {zs : List AV} {x y : Opd} (hc : compileX P N o = some (.appz sz bytes zs x y)) : ∃ c s n t u el k i z, o.op = .call c ∧ c.callee = .builtin .append ∧ c.args.toList = [s, n] ∧ c.argTypes.toList = [t, u] ∧ P.underlying t = some (.slice el) ∧ P.underlying u = some (.int k) ∧
    ofOpd N s = some x ∧ ofOpd N n = some y ∧ P.info? el = some i ∧ i.zero = some z ∧ ofL ofV z.cells.toList = some zs ∧ 0 < i.size ∧ 0 < i.bytes ∧ z.cells.size = i.size ∧ sz = i.size ∧ bytes = i.bytes := by
  obtain ⟨c, hop⟩ := cx_call hc trivial
  simp only [compileX, hop] at hc
  split at hc
  case h_3 hcal =>
    repeat' split at hc
    all_goals first
      | (rename_i hcond; cases hc; exact ⟨_, _, _, _, _, _, _, _, _, hop, hcal, ‹_›, ‹_›, ‹_›, ‹_›, ‹_›, ‹_›, ‹_›, ‹_›, ‹_›, hcond.1, hcond.2.1, hcond.2.2, rfl, rfl⟩)
      | (cases hc; done)
  all_goals
    (repeat' split at hc
     all_goals (cases hc; done))
theorem zeroCells_get {z : Array Value} {n k : Nat} (hk : k < n * z.size) : (Builtin.zeroCells z n)[k]? = some (z.getD (k % z.size) undef) := by
  have hz : 0 < z.size := by
    rcases Nat.eq_zero_or_pos z.size with h | h
    · rw [h] at hk; omega
    · exact h
  have hm : k % z.size < z.size := Nat.mod_lt _ hz
  simp [Builtin.zeroCells, hk, Array.getD_eq_getD_getElem?, hm]
/-- A row of zeros reads as such. -/
theorem rowF_zero {m : Inj} {w : World} {z : Value} {zs : List AV} {sz n : Nat} (hzs : ofL ofV z.cells.toList = some zs) (hsz : z.cells.size = sz) (h0 : 0 < sz) {F : Nat → Value} (hF : ∀ k, k < n * sz → F k = z.cells.getD (k % sz) undef) : RowF m h w sz (List.replicate n zs) F := by
  obtain ⟨q1, q2, q3⟩ := ofL_ofV (m := m) (h := h) (w := w) hzs
  refine ⟨fun x hx => ?_, fun x hx => ?_, fun i cells hi j v hj => ?_⟩
  · obtain ⟨_, rfl⟩ := List.mem_replicate.1 hx; simpa [hsz] using q1
  · obtain ⟨_, rfl⟩ := List.mem_replicate.1 hx; exact q2
  · rw [List.getElem?_replicate] at hi
    split at hi
    · rename_i hlt
      cases hi
      have hjs : j < sz := by
        have := (List.getElem?_eq_some_iff.1 hj).1
        have h6 : zs.length = sz := by simpa [hsz] using q1
        omega
      rw [hF _ (idx_lt hlt hjs), Nat.mul_comm, Nat.mul_add_mod, Nat.mod_eq_of_lt hjs]
      have := q3 j v hj
      simpa [Array.getD_eq_getD_getElem?, List.getD_eq_getElem?_getD] using this
    · cases hi
theorem new_ref {m : Inj} {w : World} {nm sz off len cap : Nat} {c : List (List AV)} {cc : Array Value} {T : TypeId} (h1 : off + len ≤ c.length) (h2 : len ≤ cap) (h3 : (off + cap) * sz ≤ cc.size) :
    VR (upd m nm (some (w.heap.size, 0))) (h.put nm (.mem sz c)) (w.alloc (.cells cc T)) (.ref nm off len) (.slice (some ⟨w.heap.size, off * sz, none⟩) len cap) := by
  refine .ref nm off len cap _ put_used_nm h2 fun sz' c' hg => ?_
  simp only [AHeap.put, if_true, Option.some.injEq, AObj.mem.injEq] at hg
  obtain ⟨rfl, rfl⟩ := hg
  exact ⟨w.heap.size, by simp [upd], h1, .inr rfl, cc, T, heap_alloc_new w _, h3⟩
/-- Noughts appended to nothing: a row that may be written. -/
theorem XOK.appz {sz bytes n : Nat} {zs : List AV} {x y : Opd} {k : IntKind} {a : Int} (hx : ev e x = some .nils) (hy : ev e y = some (.int k a)) (ha : a = n) (h0 : 0 < n) (hb : n * bytes ≤ 140737488355328) :
    XOK P N (.appz sz bytes zs x y) e h (some (.ref h.next 0 n)) (.new (.mem sz (List.replicate n zs))) := by
  subst ha
  intro o hc e2 hs m w act hr he
  obtain ⟨c, s, no, t, u, el, kk, i, z, hop, hcal, hargs, hat, hu, hu2, h1, h2, hi, hz, hzs, p1, p2, p3, rfl, rfl⟩ := cx_appz hc
  have hx2 : ev e2 x = some .nils := (ev_congr fun s h => hs s (by simp [xslots, h])).trans hx
  have hy2 : ev e2 y = some (.int k n) := (ev_congr fun s h => hs s (by simp [xslots, h])).trans hy
  have ha' : c.args = #[s, no] := by rw [← Array.toArray_toList (xs := c.args), hargs]
  have hat' : c.argTypes = #[t, u] := by rw [← Array.toArray_toList (xs := c.argTypes), hat]
  have e1 := he.eval h1 hx2
  have e3 := vr_int (he.eval h2 hy2)
  have hn1 : n * 1 ≤ n * i.bytes := Nat.mul_le_mul_left _ p2
  have hg := grownCap_ge w n 0 el
  have fin : ∀ cc : Array Value, (∀ k, k < n * i.size → cc.getD k undef = z.cells.getD (k % i.size) undef) → grownCap w n 0 el * i.size ≤ cc.size → (execOp act.eval o).run P w = .ok (.value (.slice (some ⟨w.heap.size, 0, none⟩) n (grownCap w n 0 el))) (w.drew.alloc (.cells cc el)) →
      OpOK P o act m h w h.next (some (.ref h.next 0 n)) (.new (.mem i.size (List.replicate n zs))) := by
    intro cc hcc hsz hrun
    have hr1 := hr.drew
    have hf := next_fresh hr
    obtain ⟨r1, r2⟩ := new_row (T := el) (cc := cc) (sz := i.size) (c := List.replicate n zs) hr1 hf (by
      simp only [List.length_replicate]
      have : n * i.size ≤ grownCap w n 0 el * i.size := Nat.mul_le_mul_right _ hg
      omega) (rowF_zero hzs p3 p1 hcc)
    refine ⟨_, _, r1, step_drew.trans r2, _, hrun, ?_⟩
    have := new_ref (m := m) (h := h) (w := w.drew) (nm := h.next) (sz := i.size) (off := 0) (len := n) (cap := grownCap w n 0 el) (c := List.replicate n zs) (cc := cc) (T := el) (by simp) hg (by simpa using hsz)
    simp only [Nat.zero_mul] at this
    exact this
  generalize hcx : act.eval s = cx at e1
  have hz1 : z.cells.size = i.size := p3
  have go : ∀ base, (Builtin.append_ #[t, u] o.type #[.slice base 0 0, .int k n]).run P w = .ok (.slice (some ⟨w.heap.size, 0, none⟩) n (grownCap w n 0 el)) (w.drew.alloc (.cells (Builtin.zeroCells z.cells n ++ Builtin.zeroCells z.cells (grownCap w n 0 el - n)) el)) := by
    intro base
    have hn : n ≠ 0 := by omega
    have hw : IntKind.i64.wrap (n : Int) = n := by rw [IntKind.wrap_i64]; omega
    have h63' : ¬ (9223372036854775807 < (n : Int)) := by omega
    have h48' : ¬ (281474976710656 < Builtin.nextslicecap n 0 * i.bytes) := by rw [nextslicecap_zero h0]; omega
    have h48i : ¬ (281474976710656 < (n : Int) * (i.bytes : Int)) := by
      rw [← Int.natCast_mul]
      omega
    have hneg : ¬ ((n : Int) < 0) := by omega
    have hns : ¬ (n * i.size = 0) := Nat.mul_ne_zero hn (by omega)
    cases base with
    | none => exact Lib.run_append_nil_zeros (P := P) w t u o.type el i z k kk hu hu2 hi hz n h0 p1 (by omega) (by omega)
    | some bb => simp [Builtin.append_, run_underlying hu, run_underlying hu2, sizeOf, typeInfo, zeroValue, hi, hz, asInt, asIntOf, hw, hn, hneg, hns, h63', h48', h48i, Question.forced, Builtin.firstCells, loadCells, loadCellsFrom, newRow, grownCap]
  have hrun : ∃ base, cx = .slice base 0 0 := by
    cases e1 with
    | nils0 => exact ⟨_, rfl⟩
    | nils1 ad => exact ⟨_, rfl⟩
  obtain ⟨base, rfl⟩ := hrun
  refine fin (Builtin.zeroCells z.cells n ++ Builtin.zeroCells z.cells (grownCap w n 0 el - n)) ?_ ?_ (by simp [execOp, hop, resolve, hcal, ha', hat', invoke, builtin, hcx, e3, go base])
  · intro k hk
    have := zeroCells_get (z := z.cells) (n := n) (k := k) (by rw [hz1]; exact hk)
    rw [Array.getD_eq_getD_getElem?, Array.getElem?_append_left (by simp [Builtin.zeroCells, hz1, hk]), this, hz1]
    rfl
  · simp only [Array.size_append, size_zeroCells, hz1, ← Nat.add_mul]
    exact Nat.mul_le_mul_right _ (by omega)
end
end Go.Abs

/- The abstract layer, part 25: what is known, told in other ways: rows that grow out of rows that were written, rows in memory; calls whose arguments are known better than the contract asks; ends of functions that write. -/
namespace Go.Abs
open Go

section
variable {P : Program} {N : Nat} {e e' : Env} {h h' : AHeap} {l : List CI} {Q : Exit → Env → AHeap → Prop}

/-! ### values told with less -/
def SubV (u v : AV) : Prop := ∀ (m : Inj) (h : AHeap) (w : World) (c : Value), VR m h w u c → VR m h w v c
theorem SubV.refl (u : AV) : SubV u u := fun _ _ _ _ hv => hv
theorem SubV.nil {sz : Nat} : SubV .nils (.imm sz []) := fun m h w c hv => by
  cases hv with
  | nils0 => exact .imm0 _
  | nils1 a => exact .imm1 _ _ _
theorem SubV.app {id g sz : Nat} {c : List (List AV)} : SubV (.app id g sz c) (.imm sz c) := fun m h w cv hv => by
  cases hv with
  | app0 => exact .imm0 _
  | app1 => exact .imm1 _ _ _
  | app _ _ _ _ b cap F hu hic hl hsc hrr hcap ht => exact .imm _ _ _ _ _ F hic hl hsc hrr hcap
inductive SubL : List AV → List AV → Prop
  | nil : SubL [] []
  | cons {u v : AV} {us vs : List AV} (h1 : SubV u v) (h2 : SubL us vs) : SubL (u :: us) (v :: vs)
theorem SubL.len {us vs : List AV} (hs : SubL us vs) : us.length = vs.length := by
  induction hs with
  | nil => rfl
  | cons _ _ ih => simp [ih]
theorem SubL.get {us vs : List AV} (hs : SubL us vs) : ∀ (i : Nat) (u v : AV), us[i]? = some u → vs[i]? = some v → SubV u v := by
  induction hs with
  | nil => intro i u v hu; simp at hu
  | cons h1 _ ih =>
    intro i u v hu hv
    cases i with
    | zero => cases hu; cases hv; exact h1
    | succ i => exact ih i u v (by simpa using hu) (by simpa using hv)
theorem SubV.agg {us vs : List AV} (hs : SubL us vs) (hsc : ∀ v ∈ vs, AV.scalar v = true) : SubV (.agg us) (.agg vs) := fun m h w c hv => by
  cases hv with
  | agg _ cs q1 q2 q3 =>
    refine .agg _ _ (by rw [← hs.len]; exact q1) hsc fun i v hi => ?_
    have hlt : i < us.length := by rw [hs.len]; exact (List.getElem?_eq_some_iff.1 hi).1
    exact hs.get i _ v (List.getElem?_eq_getElem hlt) hi _ _ _ _ (q3 i _ (List.getElem?_eq_getElem hlt))
theorem AC.sub {f : Nat} {us vs : List AV} {R : AV → AHeap → Prop} (hs : SubL us vs) (hac : AC P f vs h R) : AC P f us h R := fun m w cargs hr hl hv =>
  hac m w cargs hr (by rw [← hs.len]; exact hl) fun i v hi => by
    have hlt : i < us.length := by rw [hs.len]; exact (List.getElem?_eq_some_iff.1 hi).1
    exact hs.get i _ v (List.getElem?_eq_getElem hlt) hi _ _ _ _ (hv i _ (List.getElem?_eq_getElem hlt))
theorem AE.sub {f : Nat} {us vs : List AV} {r : AV} (hs : SubL us vs) (hac : AE P f vs h r h') : AE P f us h r h' := AC.sub hs hac
/-- A slot told with less. -/
theorem Cvt.sub1 {s : Nat} {u v : AV} (hs : lk s e = some u) (hv : SubV u v) : Cvt e h ((s, some v) :: e) h :=
  Cvt.put fun _ m w a hr he => hv _ _ _ _ (he.val s u hs)

/-! ### a row that was written, from here one that grows -/
theorem ref_app {m : Inj} {w : World} {id n sz nm : Nat} {c : List (List AV)} (hr : HR m h w) (hf : ¬ h.used nm) (hg : h.get id = some (.mem sz c)) {v : Value} (hv : VR m h w (.ref id 0 n) v) :
    ∃ m', HR m' ((h.set id none).put nm (.tail 0 n)) w ∧ Step m h w m' ((h.set id none).put nm (.tail 0 n)) w ∧ VR m' ((h.set id none).put nm (.tail 0 n)) w (.app nm 0 sz (c.take n)) v := by
  have hrd := hr.del id
  have sd : Step m h w m (h.set id none) w := step_del id
  have hfd : ¬ (h.set id none).used nm := hf
  cases hv with
  | ref _ _ _ cap a hu hc ha =>
    obtain ⟨b, hb, hle, had, cc, T, hcc, hsz⟩ := ha _ _ hg
    obtain ⟨b', cc', T', q1, q2, q3, q4⟩ := hr.obj _ _ hg
    rw [hb] at q1; cases q1
    rw [q2] at hcc; cases hcc
    have hlen : (c.take n).length = n := by simp; omega
    have hne : id ≠ nm := used_ne hf hu
    -- the token's place
    have key : ∀ p : Option (Nat × Nat), (∀ x, p = some x → x = (b, n * sz)) → HR (upd m nm p) ((h.set id none).put nm (.tail 0 n)) w ∧ Step m h w (upd m nm p) ((h.set id none).put nm (.tail 0 n)) w := by
      intro p hp
      have sub : ∀ j y, j ≠ nm → ((h.set id none).put nm (.tail 0 n)).get j = some y → h.get j = some y ∧ j ≠ id := fun j y hj hgj => by
        simp only [AHeap.put, if_neg hj, AHeap.set] at hgj
        by_cases e : j = id
        · simp [e] at hgj
        · rw [if_neg e] at hgj; exact ⟨hgj, e⟩
      have st : Step m h w (upd m nm p) ((h.set id none).put nm (.tail 0 n)) w := {
        os := rfl
        tape := rfl
        output := rfl
        size := Nat.le_refl _
        kind := fun k cc T fz hb _ => ⟨cc, hb, rfl⟩
        free := fun k hk hfr => ⟨rfl, fun j s y hgj hmj => by
          by_cases e : j = nm
          · subst e
            simp only [upd, if_true] at hmj
            cases hp _ hmj
            exact hfr id 0 _ hg hb
          · simp only [upd, if_neg e] at hmj; exact hfr j s y (sub j y e hgj).1 hmj⟩
        cell := fun k o v hcell hn => ⟨hcell, fun ⟨j, s, ⟨y, hgj⟩, hmj, hle⟩ => by
          by_cases e : j = nm
          · subst e
            simp only [upd, if_true] at hmj
            cases hp _ hmj
            exact hn ⟨id, 0, ⟨_, hg⟩, hb, Nat.zero_le _⟩
          · simp only [upd, if_neg e] at hmj; exact hn ⟨j, s, ⟨y, (sub j y e hgj).1⟩, hmj, hle⟩⟩
        used := fun _ hu => put_used (h := h.set id none) hu
        live := fun j x' huj hgj => by
          have e : j ≠ nm := used_ne hf huj
          exact ⟨x', (sub j x' e hgj).1, fun _ => by simp [upd, e], Compat.refl _⟩ }
      refine ⟨⟨hrd.put_gapl, hrd.put_live, fun i j y z b2 s r hi hj hmi hmj => ?_, fun j y hgj => ?_⟩, st⟩
      · by_cases ei : i = nm <;> by_cases ej : j = nm
        · rw [ei, ej]
        · subst ei
          simp only [upd, if_true] at hmi
          simp only [upd, if_neg ej] at hmj
          cases hp _ hmi
          exact absurd (hr.inj j id z _ b r 0 (sub j z ej hj).1 hg hmj hb) (sub j z ej hj).2
        · subst ej
          simp only [upd, if_true] at hmj
          simp only [upd, if_neg ei] at hmi
          cases hp _ hmj
          exact absurd (hr.inj i id y _ b s 0 (sub i y ei hi).1 hg hmi hb) (sub i y ei hi).2
        · simp only [upd, if_neg ei, if_neg ej] at hmi hmj
          exact hr.inj i j y z b2 s r (sub i y ei hi).1 (sub j z ej hj).1 hmi hmj
      · by_cases e : j = nm
        · subst e
          simp only [AHeap.put, if_true] at hgj
          cases hgj
          intro b2 s hmc
          simp only [upd, if_true] at hmc
          cases hp _ hmc
          exact ⟨cc, T, q2⟩
        · exact (hr.obj j y (sub j y e hgj).1).step st (by simp [upd, e]) fun _ _ _ => rfl
    rcases Nat.eq_zero_or_pos cap with hc0 | hc0
    · subst hc0
      obtain rfl : n = 0 := by omega
      obtain ⟨k1, k2⟩ := key none (by simp)
      refine ⟨_, k1, k2, ?_⟩
      simp only [List.take_zero]
      exact .app1 _ _ _ _ put_used_nm (tok_new (by simp [upd]))
    · rcases had with h00 | rfl
      · omega
      · obtain ⟨k1, k2⟩ := key (some (b, n * sz)) (by rintro x hx; cases hx; rfl)
        refine ⟨_, k1, k2, ?_⟩
        have hrow := (q4.take n)
        have hmul : n * sz ≤ c.length * sz := Nat.mul_le_mul_right _ (by omega)
        have := VR.app (m := upd m nm (some (b, n * sz))) (h := (h.set id none).put nm (.tail 0 n)) (w := w) nm 0 sz (c.take n) b cap (fun k => cc.getD k undef) put_used_nm (fun k hk => ⟨?_, ?_⟩) hrow.1 hrow.2.1 (fun i cells hi j v hj => (hrow.2.2 i cells hi j v hj).step k2) (by omega)
          (by rw [hlen]; exact tok_new ⟨by simp [upd], cc, T, q2, by rw [Nat.zero_add] at hsz; exact hsz⟩)
        · rw [hlen] at this
          simpa using this
        · rw [hlen] at hk
          rw [Nat.zero_add, cell_of_row w b _ cc T (0, 0) q2]
          simp [Array.getD_eq_getD_getElem?, show k < cc.size by omega]
        · rw [hlen] at hk
          rintro ⟨j, t, ⟨x, hx⟩, hm, hle2⟩
          by_cases e : j = nm
          · subst e; simp only [upd, if_true] at hm; cases hm; omega
          · simp only [upd, if_neg e] at hm
            simp only [AHeap.put, if_neg e, AHeap.set] at hx
            by_cases e2 : j = id
            · simp [e2] at hx
            · rw [if_neg e2] at hx
              exact e2 (hr.inj j id x _ b t 0 hx hg hm hb)
/-- A slot's row, from here one that grows. -/
theorem Cvt.grow {s id n sz nx : Nat} {c c' : List (List AV)} (hs : lk s e = some (.ref id 0 n)) (hg : h.get id = some (.mem sz c)) (hc : c.take n = c') (hn : h.next = nx) : Cvt e h ((s, some (.app nx 0 sz c')) :: e) ((h.set id none).put nx (.tail 0 n)) := fun N m w a hr he => by
  subst hn hc
  obtain ⟨m', k1, k2, k3⟩ := ref_app hr (next_fresh hr) hg (he.val s _ hs)
  refine ⟨m', k1, ?_, k2⟩
  have he' := he.step k2
  refine ⟨he'.size, he'.defers, fun i v hi => ?_⟩
  simp only [lk_cons, lk_nil] at hi
  split at hi
  · rename_i e1; subst e1; cases hi; exact k3
  · exact he'.val i v hi

/-! ### cells in memory, told in another way -/
theorem HR.retell {m : Inj} {w : World} (hr : HR m h w) {id sz : Nat} {c c' : List (List AV)} (hg : h.get id = some (.mem sz c)) (hl : c'.length = c.length)
    (hrow : ∀ F, RowF m h w sz c F → RowF m h w sz c' F) : HR m (h.set id (some (.mem sz c'))) w ∧ Step m h w m (h.set id (some (.mem sz c'))) w := by
  obtain ⟨b, cc, T, q1, q2, q3, q4⟩ := hr.obj _ _ hg
  have wu : WUpd w w b := ⟨rfl, rfl, rfl, rfl, fun _ _ => rfl, fun cc T fz h => ⟨cc, h, rfl⟩⟩
  have hcm : Compat (.mem sz c) (.mem sz c') := ⟨rfl, by omega⟩
  have st := step_set hr hg q1 hcm wu
  exact ⟨hr.set hg q1 hcm wu ⟨b, cc, T, q1, q2, by rw [hl]; exact q3, (hrow _ q4).step st⟩, st⟩
theorem RowF.one_cell {m : Inj} {w : World} {sz i j : Nat} {c : List (List AV)} {cells : List AV} {u v : AV} (hi : c[i]? = some cells) (hj : cells[j]? = some u) (hsc : v.scalar = true) (hv : ∀ cv, VR m h w u cv → VR m h w v cv) :
    ∀ F, RowF m h w sz c F → RowF m h w sz (c.set i (cells.set j v)) F := by
  intro F ⟨q1, q2, q3⟩
  have hlt : i < c.length := (List.getElem?_eq_some_iff.1 hi).1
  refine ⟨fun x hx => ?_, fun x hx y hy => ?_, fun k cs hk t y hy => ?_⟩
  · rcases List.mem_or_eq_of_mem_set hx with hx | rfl
    · exact q1 x hx
    · simpa using q1 cells (List.mem_of_getElem? hi)
  · rcases List.mem_or_eq_of_mem_set hx with hx | rfl
    · exact q2 x hx y hy
    · rcases List.mem_or_eq_of_mem_set hy with hy | rfl
      · exact q2 cells (List.mem_of_getElem? hi) y hy
      · exact hsc
  · rw [List.getElem?_set] at hk
    split at hk
    · rename_i e
      subst e
      have hk' : cells.set j v = cs := by simpa [hlt] using hk
      subst hk'
      rw [List.getElem?_set] at hy
      split at hy
      · rename_i e; subst e
        have hy' : v = y := by simpa [(List.getElem?_eq_some_iff.1 hj).1] using hy
        subst hy'
        exact hv _ (q3 i cells hi j u hj)
      · exact q3 i cells hi t y hy
    · exact q3 k cs hk t y hy
/-- A cell in memory is told with less. -/
theorem Cvt.cell {id sz i j : Nat} {c : List (List AV)} {cells : List AV} {u v : AV} (hg : h.get id = some (.mem sz c)) (hi : c[i]? = some cells) (hj : cells[j]? = some u) (hsc : v.scalar = true) (hv : SubV u v) :
    Cvt e h e (h.set id (some (.mem sz (c.set i (cells.set j v))))) := fun N m w a hr he => by
  obtain ⟨k1, k2⟩ := hr.retell (c' := c.set i (cells.set j v)) hg (by simp) (RowF.one_cell hi hj hsc fun cv => hv _ _ _ _)
  exact ⟨m, k1, he.step k2, k2⟩
theorem vr_adopt {m : Inj} {w : World} {id g sz : Nat} {cv : Value} (hu : h.used id) (ht : TokC h id g 0 (m id = none)) (hv : VR m h w .nils cv) : VR m h w (.app id g sz []) cv := by
  cases hv with
  | nils0 => exact .app0 _ _ _ hu ht
  | nils1 a => exact .app1 _ _ _ _ hu ht
/-- An empty cell in memory, from here a row that grows, by a new token. -/
theorem Cvt.adoptM {id sz i j nx : Nat} {c : List (List AV)} {cells : List AV} (s : Nat) (hg : h.get id = some (.mem sz c)) (hi : c[i]? = some cells) (hj : cells[j]? = some .nils) (hn : h.next = nx) :
    Cvt e h e ((h.put nx (.tail 0 0)).set id (some (.mem sz (c.set i (cells.set j (.app nx 0 s [])))))) := fun N m w a hr he => by
  subst hn
  have hf := next_fresh hr
  have st := step_putv hr hf
  have hr1 := hr.putv hf
  have hne : id ≠ h.next := used_ne hf (hr.live _ _ hg)
  have hg1 : (h.put h.next (.tail 0 0)).get id = some (.mem sz c) := by simp only [AHeap.put, if_neg hne]; exact hg
  obtain ⟨k1, k2⟩ := hr1.retell (c' := c.set i (cells.set j (.app h.next 0 s []))) hg1 (by simp) (RowF.one_cell hi hj rfl fun cv => vr_adopt put_used_nm (tok_new (by simp [upd])))
  exact ⟨_, k1, (he.step st).step k2, st.trans k2⟩
/-- The same by a token that is there: it begins anew. -/
theorem Cvt.anewM {id sz i j t g n : Nat} {c : List (List AV)} {cells : List AV} (s : Nat) (ht : h.get t = some (.tail g n)) (hg : h.get id = some (.mem sz c)) (hi : c[i]? = some cells) (hj : cells[j]? = some .nils) :
    Cvt e h e ((h.set t (some (.tail (g + 1) 0))).set id (some (.mem sz (c.set i (cells.set j (.app t (g + 1) s [])))))) := fun N m w a hr he => by
  have st := step_anew (n' := 0) hr ht (Nat.lt_succ_self g)
  have hr1 := hr.anew (n' := 0) ht (Nat.lt_succ_self g)
  have hne : id ≠ t := fun e => by subst e; rw [hg] at ht; cases ht
  have hg1 : (h.set t (some (.tail (g + 1) 0))).get id = some (.mem sz c) := by simp only [AHeap.set, if_neg hne]; exact hg
  obtain ⟨k1, k2⟩ := hr1.retell (c' := c.set i (cells.set j (.app t (g + 1) s []))) hg1 (by simp) (RowF.one_cell hi hj rfl fun cv => vr_adopt (hr1.live t _ get_set_same) (tok_set (by simp [upd])))
  exact ⟨_, k1, (he.step st).step k2, st.trans k2⟩
end
end Go.Abs

/- The abstract layer, part 26: literals that may be written, marks, slices with room given up, memory of any bytes, what a call that writes leaves. -/
namespace Go.Abs
open Go

section
variable {P : Program} {N : Nat} {m : Inj} {h : AHeap} {w : World} {e : Env} {a : Act} {nm : Nat} {o : Oper}
/-- A slice literal, run: its row stands in a new block. -/
theorem bsl_run (hr : HR m h w) (he : ER N m h w e a) {t el : TypeId} {i : TypeInfo} {z : Value} {n : Nat} {ps : Array (Nat × Operand)} {xs : List Opd} (hu : P.underlying t = some (.slice el)) (hi : P.info? el = some i) (hz : i.zero = some z)
    (hxs : ofL (fun (p : Nat × Operand) => ofOpd N p.2) ps.toList = some xs) (hbig : n * i.size ≤ 2 ^ 24) (hn : 0 < n) (hsz : 0 < i.size) (hzs : z.cells.size = i.size) (hidx : ps.toList.map (·.1) = List.range n) (ho : o.op = .buildSlice t n ps)
    {r : Option AV} {f : Eff} (hv : evalI nm (.bsl i.size xs) e h.get = some (r, f)) :
    ∃ (c : List (List AV)) (out : Array Value), r = some (.imm i.size c) ∧ c.length = n ∧ out.size = n * i.size ∧ RowF m h w i.size c (fun k => out.getD k undef) ∧ (execOp a.eval o).run P w = .ok (.value (.slice (some ⟨w.heap.size, 0, none⟩) n n)) (w.alloc (.cells out el)) := by
  have ofL_map : ∀ (l : List (Nat × Operand)) {ys : List Opd}, ofL (fun (p : Nat × Operand) => ofOpd N p.2) l = some ys → ofL (ofOpd N) (l.map (·.2)) = some ys := by
    intro l
    induction l with
    | nil => intro ys hy; simpa [ofL] using hy
    | cons p l ih =>
      intro ys hy
      simp only [ofL] at hy
      split at hy
      · rename_i y ys' h1 h2
        cases hy
        simp [ofL, h1, ih h2]
      · cases hy
  simp only [evalI] at hv
  split at hv
  · rename_i vs g1
    split at hv
    · rename_i c g2
      cases hv
      obtain ⟨e1, e2⟩ := he.evalL (ofL_map _ hxs) g1
      obtain ⟨c1, c2⟩ := cellsL_some g2
      have hpl : ps.toList.length = n := by have := congrArg List.length hidx; simpa using this
      have hvl : vs.length = n := by simp at e1; simpa [e1] using hpl
      have key : ∀ (k : Nat) (v : AV), vs[k]? = some v → ∃ p : Nat × Operand, ps.toList[k]? = some p ∧ VR m h w v (a.eval p.2) ∧ v.cs.length = i.size ∧ v.isTup = false ∧ c[k]? = some v.cs := by
        intro k v hk
        have hlt : k < ps.toList.length := by rw [hpl, ← hvl]; exact (List.getElem?_eq_some_iff.1 hk).1
        refine ⟨ps.toList[k], List.getElem?_eq_getElem hlt, ?_, (c2 k v hk).2.1, (c2 k v hk).2.2, (c2 k v hk).1⟩
        have := e2 k v hk
        simpa [List.getD_eq_getElem?_getD, List.getElem?_eq_getElem hlt, List.getElem?_map] using this
      obtain ⟨out, r1, r2, r3, r4⟩ := fill_seq i.size (ps.toList.map fun (p : Nat × Operand) => (p.1, a.eval p.2)) 0 ((Array.range (n * i.size)).map (z.cells[· % z.cells.size]!))
        (by simp only [List.map_map, List.length_map, hpl]; rw [show ((fun x : Nat × Value => x.1) ∘ fun p : Nat × Operand => (p.1, a.eval p.2)) = (·.1) from rfl, hidx, List.range_eq_range'])
        (fun q hq => by
          obtain ⟨k, hk, rfl⟩ := List.mem_iff_getElem.1 hq
          simp only [List.length_map] at hk
          have hkv : k < vs.length := by omega
          obtain ⟨p, hp, hvr, hl, ht, _⟩ := key k vs[k] (List.getElem?_eq_getElem hkv)
          have := (vr_cells hvr (isTup_ne ht)).1
          have hp' : ps.toList[k] = p := by simpa [List.getElem?_eq_getElem hk] using hp
          simp only [List.getElem_map, hp']
          omega)
        (by simp [hpl])
      have hne : ¬ (n * i.size = 0) := by have := Nat.mul_pos hn hsz; omega
      have hcl : c.length = n := by omega
      have hmem : ∀ x ∈ c, ∃ (k : Nat) (v : AV), vs[k]? = some v ∧ x = v.cs := by
        intro x hx
        obtain ⟨k, hk, rfl⟩ := List.mem_iff_getElem.1 hx
        have hkv : k < vs.length := by omega
        have := (c2 k _ (List.getElem?_eq_getElem hkv)).1
        exact ⟨k, vs[k], List.getElem?_eq_getElem hkv, by rw [List.getElem?_eq_getElem hk] at this; simpa using this⟩
      refine ⟨c, out, rfl, hcl, by rw [r2]; simp, ⟨fun x hx => ?_, fun x hx => ?_, fun k cells hk j u hj => ?_⟩, ?_⟩
      · obtain ⟨k, v, hk, rfl⟩ := hmem x hx
        exact (c2 k v hk).2.1
      · obtain ⟨k, v, hk, rfl⟩ := hmem x hx
        obtain ⟨p, hp, hvr, _, ht, _⟩ := key k v hk
        exact (vr_cells hvr (isTup_ne ht)).2.1
      · have hkl : k < vs.length := by have := (List.getElem?_eq_some_iff.1 hk).1; omega
        obtain ⟨p, hp, hvr, hl, ht, hck⟩ := key k vs[k] (List.getElem?_eq_getElem hkl)
        rw [hk] at hck
        cases hck
        have hjl : j < i.size := by rw [← hl]; exact (List.getElem?_eq_some_iff.1 hj).1
        have := r4 k (p.1, a.eval p.2) (by simp [hp]) j hjl
        rw [Nat.zero_add] at this
        show VR m h w u (out.getD (k * i.size + j) undef)
        rw [this]
        exact (vr_cells hvr (isTup_ne ht)).2.2 j u hj
      · have hbig' : ¬ (16777216 < n * i.size) := by simp at hbig; omega
        have r1' := r1
        simp only [execOp, ho, Instr.buildSlice, Sem.run_bind, Sem.run_pure, Result.andThen_ok, run_underlying hu, run_sizeOf' hi, zeroValue, run_typeInfo' hi, hz]
        simp only [show (2 : Nat) ^ 24 = 16777216 from rfl, gt_iff_lt, hbig', if_false, hne, Sem.run_bind, Sem.run_pure, Result.andThen_ok, run_typeInfo' hi, hz]
        have hmap : (ps.map fun (x : Nat × Operand) => (x.1, a.eval x.2)).toList = ps.toList.map fun (p : Nat × Operand) => (p.1, a.eval p.2) := by simp
        rw [hmap, r1']
        simp [newRow]
    · cases hv
  · cases hv

theorem cx_bsl {sz : Nat} {xs : List Opd} (hc : compileOp P N o = some (.bsl sz xs)) : ∃ t n ps el i z, o.op = .buildSlice t n ps ∧ P.underlying t = some (.slice el) ∧ P.info? el = some i ∧ i.zero = some z ∧ ofL (fun (p : Nat × Operand) => ofOpd N p.2) ps.toList = some xs ∧ n * i.size ≤ 2 ^ 24 ∧ 0 < n ∧ 0 < i.size ∧ z.cells.size = i.size ∧ ps.toList.map (·.1) = List.range n ∧ sz = i.size := by
  cases hop : o.op <;> simp only [compileOp, hop] at hc <;> try (cases hc; done)
  case buildSlice t n ps =>
    split at hc
    · split at hc
      · split at hc
        · cases hc
        · split at hc
          · split at hc
            · rename_i hcond; cases hc; exact ⟨_, _, _, _, _, _, rfl, ‹_›, ‹_›, ‹_›, ‹_›, hcond.1, hcond.2.1, hcond.2.2.1, hcond.2.2.2.1, hcond.2.2.2.2, rfl⟩
            · cases hc
          · cases hc
      · cases hc
    · cases hc
  all_goals
    (repeat' split at hc
     all_goals first
       | (cases hc; done)
       | (rw [Option.map_eq_some_iff] at hc; obtain ⟨_, _, h⟩ := hc; cases h; done)
       | contradiction)
end

section
variable {P : Program} {N : Nat} {e e' : Env} {h h' : AHeap} {l : List CI} {Q : Exit → Env → AHeap → Prop}

/-- An operation that is a plain one, by what it does at the real state, in any surrounding. -/
theorem FX.of {d : Option Nat} {i : Ins} {g : Option (Nat × Bool)} {r : Option AV} {f : Eff} (hp : i.plain = true) (hg : met e g)
    (hx : ∀ (o : Oper), compileOp P N o = some i → ∀ e2, (∀ s ∈ islots i, lk s e2 = lk s e) → ∀ (m : Inj) (w : World) (a : Act), HR m h w → ER N m h w e2 a → OpOK P o a m h w h.next r f) : FX P N ⟨d, i, g⟩ e h r (f.on h.next h) := by
  intro ops j o ho hc e2 hs m w a K Q hr he hk
  have hraw := comp_plain hc hp
  rcases compI_ok hc with ⟨hb1, hb2⟩ | ⟨hd, hdst, _, hgd⟩
  · have hb : i = .bad := hb1
    subst hb; cases hp
  · obtain ⟨w1, w2⟩ := wanted_of he hgd
    have hi : ∀ s ∈ islots i, lk s e2 = lk s e := fun s h => hs s (by unfold cslots; split <;> simp [h])
    have hw : Region.wanted o (yielded ops a.tmps) = true := by
      cases g with
      | none => exact w1 rfl
      | some sb =>
        obtain ⟨s, b⟩ := sb
        have hl : lk s e2 = some (.bool b) := (hs s (by simp [cslots])).trans hg
        rw [w2 s b b rfl hl]; simp
    simp only [wpOp, ho]
    rw [if_pos hw]
    left
    obtain ⟨m', w', hr', st, hres⟩ := hx o hraw e2 hi m w a hr he
    have hd' : d = o.dst := hd
    unfold Oper.wp
    cases r with
    | some v =>
      obtain ⟨cv, hrun, hv⟩ := hres
      rw [hrun, Oper.upon_value]
      refine hk m' w' _ hr' ?_ st
      show ER N m' _ w' (putR d (some v) e2) _
      rw [hd']
      exact (he.step st).putR hdst hv
    | none =>
      rw [hres, Oper.upon_skip]
      refine hk m' w' _ hr' ?_ st
      show ER N m' _ w' (putR d none e2) _
      rw [hd']
      exact (he.step st).skipR _ _
/-- A literal that may be written. -/
theorem FX.bslM {d : Option Nat} {sz n : Nat} {xs : List Opd} {g : Option (Nat × Bool)} {vs : List AV} {c : List (List AV)} (hv : evL e xs = some vs) (hc : cellsL sz vs = some c) (hl : c.length = n) (hg : met e g) : FX P N ⟨d, .bsl sz xs, g⟩ e h (some (.ref h.next 0 n)) (h.put h.next (.mem sz c)) := by
  refine FX.of (f := .new (.mem sz c)) rfl hg fun o ho e2 hs m w a hr he => ?_
  obtain ⟨t, n', ps, el, i, z, hop, hu, hi, hz, hxs, p1, p2, p3, p4, p5, rfl⟩ := cx_bsl ho
  have hv2 : evL e2 xs = some vs := (evL_congr fun s h => hs s (by simp [islots, h])).trans hv
  have hev : evalI h.next (.bsl i.size xs) e2 h.get = some (some (.imm i.size c), .none) := by simp only [evalI, hv2, hc]
  obtain ⟨c', out, q1, q2, q3, q4, q5⟩ := bsl_run hr he hu hi hz hxs p1 p2 p3 p4 p5 hop hev
  cases q1
  have hn : n = n' := by omega
  subst hn
  have hf := next_fresh hr
  obtain ⟨r1, r2⟩ := new_row (T := el) (cc := out) hr hf (by rw [q2, q3]; exact Nat.le_refl _) q4
  refine ⟨_, _, r1, r2, _, q5, ?_⟩
  have := new_ref (m := m) (h := h) (w := w) (nm := h.next) (sz := i.size) (off := 0) (len := n) (cap := n) (c := c) (cc := out) (T := el) (by omega) (Nat.le_refl _) (by rw [q3]; simp)
  simp only [Nat.zero_mul] at this
  exact this

theorem cx_app {o : Oper} {sz bytes : Nat} {x y : Opd} (hc : compileOp P N o = some (.app sz bytes x y)) : ∃ c s n t el i z, o.op = .call c ∧ c.callee = .builtin .append ∧ c.args.toList = [s, n] ∧ c.argTypes.toList = [t, t] ∧ P.underlying t = some (.slice el) ∧
    ofOpd N s = some x ∧ ofOpd N n = some y ∧ P.info? el = some i ∧ i.zero = some z ∧ 0 < i.size ∧ 0 < i.bytes ∧ z.cells.size = i.size ∧ sz = i.size ∧ bytes = i.bytes := by
  cases hop : o.op <;> simp only [compileOp, hop] at hc <;> try (cases hc; done)
  case call c =>
    repeat' split at hc
    all_goals first
      | (cases hc; done)
      | (rename_i hcond; cases hc; obtain ⟨q1, q2, q3, q4, q5⟩ := hcond; subst q1; subst q2; exact ⟨_, _, _, _, _, _, _, rfl, ‹_›, ‹_›, ‹_›, ‹_›, ‹_›, ‹_›, ‹_›, ‹_›, q3, q4, q5, rfl, rfl⟩)
      | contradiction
  all_goals
    (repeat' split at hc
     all_goals first
       | (cases hc; done)
       | (rw [Option.map_eq_some_iff] at hc; obtain ⟨_, _, h⟩ := hc; cases h; done)
       | contradiction)
/-- An append to nothing that is grown no more. -/
theorem FX.appI {d : Option Nat} {sz bytes : Nat} {x y : Opd} {g : Option (Nat × Bool)} {v : AV} {c : List (List AV)} (hx : ev e x = some .nils) (hy : ev e y = some v) (hc : rdS h.get sz v = some c) (hb : c.length * bytes ≤ 140737488355328) (hg : met e g) : FX P N ⟨d, .app sz bytes x y, g⟩ e h (some (.imm sz c)) h := by
  refine FX.of (f := .none) rfl hg fun o ho e2 hs m w a hr he => ?_
  obtain ⟨cl, s, n, t, el, i, z, hop, hcal, hargs, hat, hu, h1, h2, hi, hz, p1, p2, p3, rfl, rfl⟩ := cx_app ho
  have hx2 : ev e2 x = some .nils := (ev_congr fun s h => hs s (by simp [islots, h])).trans hx
  have hy2 : ev e2 y = some v := (ev_congr fun s h => hs s (by simp [islots, h])).trans hy
  have ha' : cl.args = #[s, n] := by rw [← Array.toArray_toList (xs := cl.args), hargs]
  have hat' : cl.argTypes = #[t, t] := by rw [← Array.toArray_toList (xs := cl.argTypes), hat]
  have e1 := he.eval h1 hx2
  have e3 := he.eval h2 hy2
  have hbase : ∃ base, a.eval s = .slice base 0 0 := by
    generalize a.eval s = cx at e1
    cases e1 with
    | nils0 => exact ⟨_, rfl⟩
    | nils1 ad => exact ⟨_, rfl⟩
  obtain ⟨base, hcx⟩ := hbase
  obtain ⟨w', cv, q1, q2, q3, q4⟩ := append_imm (P := P) (ty := o.type) (base := base) hr hu hi hz p1 p2 p3 e3 hc hb
  exact ⟨m, w', q2, q3, cv, by simp [execOp, hop, resolve, hcal, ha', hat', invoke, builtin, hcx, q1], q4⟩

/-! ### marks -/
theorem cx_strish {o : Oper} {x : Opd} (hc : compileX P N o = some (.strish x)) : ∃ s d xo el, o.op = .convert s d xo ∧ s = d ∧ P.underlying s = some (.slice el) ∧ P.underlying el = some (.int .u8) ∧ ofOpd N xo = some x := by
  cases hop : o.op <;> simp only [compileX, hop] at hc <;> try (cases hc; done)
  case convert s d xo =>
    repeat' split at hc
    all_goals first
      | (cases hc; exact ⟨_, _, _, _, rfl, ‹s = d›, ‹P.underlying s = some _›, ‹_›, ‹_›⟩)
      | (cases hc; done)
  all_goals
    (repeat' split at hc
     all_goals first
       | (cases hc; done)
       | (rw [Option.map_eq_some_iff] at hc; obtain ⟨_, _, h⟩ := hc; cases h; done)
       | contradiction)
theorem mark_block {w : World} {b : Nat} {cc : Array Value} {T : TypeId} {fz : Nat × Nat} (hb : w.heap[b]? = some (.cells cc T fz)) (n : Nat) : WMark w (w.freeze ⟨b, n, none⟩ 1) b := by
  have hlt : b < w.heap.size := (Array.getElem?_eq_some_iff.1 hb).1
  have hs : w.freeze ⟨b, n, none⟩ 1 = { w with heap := (w.freeze ⟨b, n, none⟩ 1).heap } := by
    unfold World.freeze; split <;> rfl
  have hh : (w.freeze ⟨b, n, none⟩ 1).heap.size = w.heap.size ∧ (∀ k, k ≠ b → (w.freeze ⟨b, n, none⟩ 1).heap[k]? = w.heap[k]?) ∧ ∃ fz', (w.freeze ⟨b, n, none⟩ 1).heap[b]? = some (.cells cc T fz') := by
    unfold World.freeze
    rw [if_neg (by decide)]
    refine ⟨by simp, fun k hk => ?_, ?_⟩
    · simp only [Array.getElem?_modify]
      rw [if_neg (fun e => hk e.symm)]
    · simp only [Array.getElem?_modify, hb]
      simp
  obtain ⟨h1, h2, fz', h3⟩ := hh
  refine ⟨by rw [hs], by rw [hs], by rw [hs], h1, h2, fun o => ?_⟩
  simp only [World.cell?, h3, hb]
/-- A literal's row is marked: from here it is written no more. -/
theorem XOK.strish {x : Opd} {id n : Nat} {c : List (List AV)} (hx : ev e x = some (.ref id 0 n)) (hg : h.get id = some (.mem 1 c)) (hl : c.length = n) (h0 : 0 < n) : XOK P N (.strish x) e h (some (.imm 1 c)) (.del id) := by
  intro o hc e2 hs m w act hr he
  obtain ⟨s, _, xo, el, hop, rfl, u1, u2, h1⟩ := cx_strish hc
  have hx2 : ev e2 x = some (.ref id 0 n) := (ev_congr fun s h => hs s (by simp [xslots, h])).trans hx
  have hv := he.eval h1 hx2
  obtain ⟨b, cc, T, q1, q2, q3, q4⟩ := hr.obj _ _ hg
  generalize hcx : act.eval xo = cx at hv
  cases hv with
  | ref _ _ _ cap ad hu hcap ha =>
    obtain ⟨b', hb', hle, had, cc', T', hcc, hsz⟩ := ha _ _ hg
    rw [q1] at hb'; cases hb'
    obtain rfl : ad = ⟨b, 0 * 1, none⟩ := by
      rcases had with h5 | h5
      · omega
      · exact h5
    have hshape : w.shape? b = some (T, cc.size) := by unfold World.shape?; rw [q2]
    have wm := mark_block q2 cc.size
    have st := step_mark hr hg q1 wm
    refine ⟨m, w.freeze ⟨b, cc.size, none⟩ 1, hr.mark hg q1 wm, st, .slice (some ⟨b, 0 * 1, none⟩) n cap, ?_, ?_⟩
    · simp [execOp, hop, hcx, convert, run_underlying u1, run_underlying u2, markStringish, hshape]
    · have := VR.imm (m := m) (h := h.set id none) (w := w.freeze ⟨b, cc.size, none⟩ 1) 1 c b 0 cap (fun k => cc.getD k undef) (fun k hk => ⟨?_, ?_⟩) q4.1 q4.2.1 (fun i cells hi j v hj => (q4.2.2 i cells hi j v hj).step st) (by omega)
      · rw [hl] at this; exact this
      · rw [wm.cell, Nat.zero_add, cell_of_row w b k cc T (0, 0) q2]
        simp [Array.getD_eq_getD_getElem?, show k < cc.size by omega]
      · rintro ⟨j, t, ⟨x, hx⟩, hm, _⟩
        by_cases e : j = id
        · simp [AHeap.set, e] at hx
        · simp only [AHeap.set, if_neg e] at hx
          exact e (hr.inj j id x _ b t 0 hx hg hm q1)

/-! ### slices with a bound for their room -/
theorem cx_slc3 {o : Oper} {sz : Nat} {x mx : Opd} {lo hi : Option Opd} (hc : compileX P N o = some (.slc3 sz x lo hi mx)) : ∃ t xo lo' hi' mo el i, o.op = .slice t xo lo' hi' (some mo) ∧ P.underlying t = some (.slice el) ∧ P.info? el = some i ∧ ofOpd N xo = some x ∧ ofOpd N mo = some mx ∧ OOpd N lo' lo ∧ OOpd N hi' hi ∧ sz = i.size := by
  cases hop : o.op <;> simp only [compileX, hop] at hc <;> try (cases hc; done)
  case slice t xo lo' hi' mo =>
    cases mo with
    | none =>
      repeat' split at hc
      all_goals first
        | (cases hc; done)
        | contradiction
        | exact absurd ‹Op.slice _ _ _ _ none = Op.slice _ _ _ _ (some _)› (by simp)
    | some mo =>
      simp only at hc
      split at hc
      · split at hc
        · cases lo' <;> cases hi' <;> simp only at hc
          · cases hc; exact ⟨_, _, _, _, _, _, _, rfl, ‹_›, ‹_›, ‹_›, ‹_›, trivial, trivial, rfl⟩
          · rw [Option.map_eq_some_iff] at hc; obtain ⟨_, h1, h2⟩ := hc; cases h2; exact ⟨_, _, _, _, _, _, _, rfl, ‹_›, ‹_›, ‹_›, ‹_›, trivial, h1, rfl⟩
          · rw [Option.map_eq_some_iff] at hc; obtain ⟨_, h1, h2⟩ := hc; cases h2; exact ⟨_, _, _, _, _, _, _, rfl, ‹_›, ‹_›, ‹_›, ‹_›, h1, trivial, rfl⟩
          · split at hc
            · rename_i h1 h2; cases hc; exact ⟨_, _, _, _, _, _, _, rfl, ‹_›, ‹_›, ‹_›, ‹_›, h1, h2, rfl⟩
            · cases hc
        · cases hc
      · cases hc
  all_goals
    (repeat' split at hc
     all_goals first
       | (cases hc; done)
       | (rw [Option.map_eq_some_iff] at hc; obtain ⟨_, _, h⟩ := hc; cases h; done)
       | contradiction)
/-- x[:0:0], x[0:0:0]: nothing, and no room. -/
theorem XOK.slc00 {sz : Nat} {x mx y : Opd} {k k' : IntKind} {u : AV} (hx : ev e x = some u) (hu : ∃ n, rdL h.get u = some n) (hh : ev e y = some (.int k 0)) (hm : ev e mx = some (.int k' 0)) : XOK P N (.slc3 sz x none (some y) mx) e h (some .nils) .none := by
  intro o hc e2 hs m w act hr he
  obtain ⟨t, xo, lo', hi', mo, el, i, hop, hu1, hi, h1, h2, h3, h4, rfl⟩ := cx_slc3 hc
  cases lo' with
  | some _ => exact h3.elim
  | none =>
    cases hi' with
    | none => exact h4.elim
    | some ho =>
      have hx2 := (ev_congr fun s h => hs s (by simp [xslots, h])).trans hx
      have hh2 := (ev_congr fun s h => hs s (by simp [xslots, bslots, h])).trans hh
      have hm2 := (ev_congr fun s h => hs s (by simp [xslots, h])).trans hm
      obtain ⟨n, hn⟩ := hu
      obtain ⟨ad, cap, hcx⟩ := rdL_vr (he.eval h1 hx2) hn
      have b1 := vr_int (he.eval h4 hh2)
      have b2 := vr_int (he.eval h2 hm2)
      refine OpOK.pure hr (cv := .slice ad 0 0) ?_ (by cases ad with | none => exact .nils0 | some ad => exact .nils1 ad)
      have hb : (Instr.sliceBounds true n cap none (some (.int k 0)) (some (.int k' 0))).run P w = .ok (0, 0, 0) w := by
        simp [Instr.sliceBounds, Instr.sliceBound, asIntOf]
      simp [execOp, hop, Instr.sliceAt, Instr.slice, run_underlying hu1, hcx, b1, b2, hb, run_sizeOf' hi]
/-- x[:n:n] of a row that may be written. -/
theorem XOK.slcNN {sz : Nat} {x mx y : Opd} {k k' : IntKind} {id l n : Nat} {a b : Int} (hx : ev e x = some (.ref id 0 l)) (hh : ev e y = some (.int k a)) (hm : ev e mx = some (.int k' b)) (ha : a = n) (hb : b = n) (hn : n ≤ l) (hg : ∃ c, h.get id = some (.mem sz c)) : XOK P N (.slc3 sz x none (some y) mx) e h (some (.ref id 0 n)) .none := by
  subst ha hb
  intro o hc e2 hs m w act hr he
  obtain ⟨t, xo, lo', hi', mo, el, i, hop, hu1, hi, h1, h2, h3, h4, rfl⟩ := cx_slc3 hc
  cases lo' with
  | some _ => exact h3.elim
  | none =>
    cases hi' with
    | none => exact h4.elim
    | some ho =>
      have hx2 := (ev_congr fun s h => hs s (by simp [xslots, h])).trans hx
      have hh2 := (ev_congr fun s h => hs s (by simp [xslots, bslots, h])).trans hh
      have hm2 := (ev_congr fun s h => hs s (by simp [xslots, h])).trans hm
      have hv := he.eval h1 hx2
      have b1 := vr_int (he.eval h4 hh2)
      have b2 := vr_int (he.eval h2 hm2)
      generalize hcx : act.eval xo = cx at hv
      cases hv with
      | ref _ _ _ cap ad hu hcap ha =>
        obtain ⟨c, hg⟩ := hg
        obtain ⟨b', hb', hle, had, cc', T', hcc, hsz⟩ := ha _ _ hg
        have hb : (Instr.sliceBounds true l cap none (some (.int k (n : Int))) (some (.int k' (n : Int)))).run P w = .ok (0, n, n) w := by
          have q1 : (n : Int) ≤ (cap : Int) := by omega
          have q2 : n ≤ cap := by omega
          simp [Instr.sliceBounds, Instr.sliceBound, asIntOf, q2]
        have hvv : VR m h w (.ref id 0 n) (.slice (some ad) n n) := .ref id 0 n n ad hu (Nat.le_refl _) fun sz' c' hg' => by
          obtain ⟨b2, hb2, hle2, had2, cc2, T2, hcc2, hsz2⟩ := ha _ _ hg'
          refine ⟨b2, hb2, by omega, ?_, cc2, T2, hcc2, ?_⟩
          · rcases had2 with h5 | h5
            · left; omega
            · right; exact h5
          · have : (0 + n) * sz' ≤ (0 + cap) * sz' := Nat.mul_le_mul_right _ (by omega)
            omega
        refine OpOK.pure hr (cv := .slice (some ad) n n) ?_ hvv
        have hadd : ad.add (0 * i.size) = ad := by simp [Addr.add]
        have hrun : (Instr.slice t (.slice (some ad) l cap) none (some (.int k (n : Int))) (some (.int k' (n : Int)))).run P w = .ok (.slice (some ad) n n) w := by
          simp only [Instr.slice, Sem.run_bind, run_underlying hu1, Result.andThen_ok, hb, run_sizeOf' hi, Sem.run_pure, Option.map_some, hadd, Nat.sub_zero, ite_self]
        have hrun2 : (Instr.sliceAt t (.slice (some ad) l cap) none (some (.int k (n : Int))) (some (.int k' (n : Int)))).run P w = .ok (.slice (some ad) n n) w := by
          simp only [Instr.sliceAt, Sem.run_bind, run_underlying hu1, Result.andThen_ok, hrun]
        simp only [execOp, hop, hcx, b1, b2, Option.map_some, Option.map_none, Sem.run_bind, hrun2, Result.andThen_ok, Sem.run_pure]

/-! ### memory of any bytes -/
theorem cx_callx {o : Oper} {f : Nat} {xs : List Opd} (hc : compileX P N o = some (.callx f xs)) : ∃ c fn, o.op = .call c ∧ c.callee = .value (.func f) ∧ P.funcs[f]? = some fn ∧ fn.body = none ∧ ofL (ofOpd N) c.args.toList = some xs := by
  obtain ⟨c, hop⟩ := cx_call hc trivial
  simp only [compileX, hop] at hc
  repeat' split at hc
  all_goals first
    | (cases hc; exact ⟨_, _, hop, ‹_›, ‹_›, by simpa using ‹Option.isNone _ = true›, ‹_›⟩)
    | (cases hc; done)
theorem digits_get : ∀ (n t : Nat) (acc : Array Value), (∀ k, k < acc.size → ∃ q : Int, acc.getD k undef = .int .u8 q) → ∀ k, k < (Extern.BytealgMakeNoZero.digits n t acc).size → ∃ q : Int, (Extern.BytealgMakeNoZero.digits n t acc).getD k undef = .int .u8 q
  | 0, _, acc, ha, k, hk => ha k hk
  | n + 1, t, acc, ha, k, hk => by
    rw [Extern.BytealgMakeNoZero.digits] at hk ⊢
    refine digits_get n _ _ (fun j hj => ?_) k hk
    by_cases hlt : j < acc.size
    · obtain ⟨q, hq⟩ := ha j hlt
      exact ⟨q, by simpa [Array.getD_eq_getD_getElem?, Array.getElem?_push_lt hlt, hlt] using hq⟩
    · simp only [Array.size_push] at hj
      obtain rfl : j = acc.size := by omega
      exact ⟨Int.ofNat (t % 256), by simp [Array.getD_eq_getD_getElem?]⟩
/-- New memory of any bytes. -/
theorem FQ.noZero {d : Option Nat} {f n : Nat} {x : Opd} {g : Option (Nat × Bool)} {a : Int} {fn : Func} {t el : TypeId} (hf : P.funcs[f]? = some fn) (hnm : fn.name = "internal/bytealg.MakeNoZero") (hx1 : Extern.findNext fn = none) (hx2 : Extern.find fn = some (Extern.BytealgMakeNoZero.makeNoZero fn.params fn.resultTypes)) (hres : fn.resultTypes = #[t]) (ht : P.underlying t = some (.slice el))
    (hx : ev e x = some (.int .i64 a)) (ha : a = n) (hn : n ≤ 1000000) (hg : met e g) :
    FQ P N ⟨d, .raw (.callx f [x]), g⟩ e h (fun r h' => ∃ q : Nat → Int, r = some (.ref h.next 0 n) ∧ h' = h.put h.next (.mem 1 ((List.range n).map fun i => [.int .u8 (q i)]))) := by
  subst ha
  refine FQ.of (by simp) hg fun ops o hc m w act hr he => ?_
  obtain ⟨c, fn', hop, hcal, hfn, hbody, hxs⟩ := cx_callx (compI_raw hc rfl)
  rw [hf] at hfn; cases hfn
  obtain ⟨hl1, hl2⟩ := he.evalL hxs (show evL e [x] = some [.int .i64 n] by simp [evL, hx])
  have e1 : ∃ y, c.args.toList = [y] := by
    cases hcl : c.args.toList with
    | nil => rw [hcl] at hl1; simp at hl1
    | cons y ys =>
      cases ys with
      | nil => exact ⟨y, rfl⟩
      | cons z zs => rw [hcl] at hl1; simp at hl1
  obtain ⟨y, hy⟩ := e1
  have ha' : c.args = #[y] := by rw [← Array.toArray_toList (xs := c.args), hy]
  have e2 := vr_int (hl2 0 _ rfl)
  rw [hy] at e2
  simp at e2
  have hrun : ∃ cs : Array Value, (Extern.BytealgMakeNoZero.makeNoZero fn.params #[t] #[.int .i64 n]).run P w = .ok (.slice (some ⟨w.heap.size, 0, none⟩) n cs.size) (w.drew.drew.alloc (.cells cs el)) ∧ n ≤ cs.size ∧ ∀ k, k < cs.size → ∃ q : Int, cs.getD k undef = .int .u8 q := by
    have hdef : Extern.BytealgMakeNoZero.makeNoZero fn.params #[t] #[.int .i64 n] =
        (do
          let .slice elem ← underlying t | stuck "bytealg.MakeNoZero: slice type expected"
          if (n : Int) < 0 || (n : Int) > 2 ^ 48 then runtimePanic (.error "makeslice: len out of range")
          let cap ← choose (.appendCap (n : Int).toNat 0 elem)
          askRoom cap
          let bytes ← choose (.extern "internal/bytealg.MakeNoZero.bytes" 0)
          let a ← newRow elem (Extern.BytealgMakeNoZero.digits cap bytes #[])
          pure (.slice (some a) (n : Int).toNat cap)) := rfl
    refine ⟨Extern.BytealgMakeNoZero.digits (grownCap w n 0 el) ((Question.extern "internal/bytealg.MakeNoZero.bytes" 0).cut (w.tape (w.drawn + 1) (.extern "internal/bytealg.MakeNoZero.bytes" 0))) #[], ?_, ?_, digits_get _ _ _ (fun k hk => by simp at hk)⟩
    · rw [hdef]
      have h1 : ¬ (n : Int) < 0 := by omega
      have h2 : ¬ (281474976710656 : Int) < (n : Int) := by omega
      simp [run_underlying ht, h1, h2, Question.forced, newRow, Lib.size_digits, grownCap]
    · rw [Lib.size_digits]
      simpa using grownCap_ge w n 0 el
  obtain ⟨cs, hrun, p1, p2⟩ := hrun
  let q : Nat → Int := fun k => if hk : k < cs.size then Classical.choose (p2 k hk) else 0
  have hq : ∀ k, k < cs.size → cs.getD k undef = .int .u8 (q k) := fun k hk => by
    show _ = Value.int .u8 (dite _ _ _)
    rw [dif_pos hk]
    exact Classical.choose_spec (p2 k hk)
  have hr2 := hr.drew.drew
  have hf2 := next_fresh hr
  obtain ⟨r1, r2⟩ := new_row (w := w.drew.drew) (T := el) (cc := cs) (sz := 1) (c := (List.range n).map fun i => [AV.int .u8 (q i)]) hr2 hf2 (by simpa using p1) ⟨fun x hx => by simp at hx; obtain ⟨_, _, rfl⟩ := hx; rfl, fun x hx v hv => by simp at hx; obtain ⟨_, _, rfl⟩ := hx; simp at hv; subst hv; rfl, fun i cells hi j v hj => by
    have hin : i < n := by simpa using (List.getElem?_eq_some_iff.1 hi).1
    rw [List.getElem?_map, List.getElem?_range hin] at hi
    cases hi
    rcases j with _ | j
    · cases hj
      show VR _ _ _ _ (cs.getD (i * 1 + 0) undef)
      rw [Nat.mul_one, Nat.add_zero, hq i (by omega)]
      exact .int _ _
    · simp at hj⟩
  have hbn : fn.body.isNone = true := by rw [hbody]; rfl
  have hnn : (fn.name == "runtime.NumGoroutine") = false := by rw [hnm]; decide
  refine ⟨_, .new (.mem 1 ((List.range n).map fun i => [AV.int .u8 (q i)])), ⟨q, rfl, rfl⟩, _, _, r1, step_drew.trans (step_drew.trans r2), .slice (some ⟨w.heap.size, 0, none⟩) n cs.size, ?_, ?_⟩
  · have hcf : (callFunc f #[.int .i64 n]).run P w = .ok (.value (.slice (some ⟨w.heap.size, 0, none⟩) n cs.size)) (w.drew.drew.alloc (.cells cs el)) := by
      rw [run_callFunc_extern hf hnn hbn hx1 hx2, hres, hrun]; rfl
    have hev : c.args.map act.eval = #[.int .i64 (n : Int)] := by rw [ha']; simp [e2]
    simp [execOp, hop, resolve, hcal, hev, Act.eval, Deferred.ofValue, invoke, hcf]
  · have := new_ref (m := m) (h := h) (w := w.drew.drew) (nm := h.next) (sz := 1) (off := 0) (len := n) (cap := cs.size) (c := (List.range n).map fun i => [AV.int .u8 (q i)]) (cc := cs) (T := el) (by simp) p1 (by simp)
    simp only [Nat.zero_mul] at this
    exact this
end
end Go.Abs

/- The abstract layer, part 27: what a call that writes leaves; keys that are structs. -/
namespace Go.Abs
open Go

theorem Clo.mono {u u' : Nat → Prop} (hu : ∀ id, u id → u' id) {v : AV} (hc : Clo u v) : Clo u' v := by
  induction hc with
  | bool b => exact .bool b
  | int k n => exact .int k n
  | str s => exact .str s
  | nilp => exact .nilp
  | ptr id i off h => exact .ptr _ _ _ (hu _ h)
  | iptr sz c i off _ ih => exact .iptr _ _ _ _ ih
  | nils => exact .nils
  | imm sz c _ ih => exact .imm _ _ ih
  | app id g sz c h _ ih => exact .app _ _ _ _ (hu _ h) ih
  | ref id off len h => exact .ref _ _ _ (hu _ h)
  | nilm => exact .nilm
  | map id h => exact .map _ (hu _ h)
  | nilf => exact .nilf
  | func fn vs us _ _ ih1 ih2 => exact .func _ _ _ ih1 ih2
  | nili => exact .nili
  | iface t v _ ih => exact .iface _ _ ih
  | agg vs _ ih => exact .agg _ ih
  | tup vs _ ih => exact .tup _ ih
def CloObj (u : Nat → Prop) : AObj → Prop
  | .mem _ c => ∀ x ∈ c, ∀ v ∈ x, Clo u v
  | .tail _ _ => True
  | .map es => ∀ kv ∈ es, Clo u kv.1 ∧ Clo u kv.2
  | .loop _ _ _ es _ _ _ _ _ => ∀ sv ∈ es, Clo u sv.2
  | .dfr _ _ => True
theorem CloObj.mono {u u' : Nat → Prop} (hu : ∀ id, u id → u' id) {x : AObj} (hc : CloObj u x) : CloObj u' x := by
  cases x with
  | mem sz c => exact fun x hx v hv => (hc x hx v hv).mono hu
  | tail g n => trivial
  | map es => exact fun kv h => ⟨(hc kv h).1.mono hu, (hc kv h).2.mono hu⟩
  | loop => exact fun sv h => (hc sv h).mono hu
  | dfr => trivial

/-- Names that may be spoken of behind the call. -/
def Nm (h h' : AHeap) (id : Nat) : Prop := h'.used id ∨ ∃ x, h.get id = some x
/-- h' is what the call makes of h. -/
structure Ext (h h' : AHeap) : Prop where
  next : h.next ≤ h'.next
  gap : ∀ id, h'.gap id = true → h.gap id = true
  obj : ∀ id x, h'.get id = some x → h.get id = some x ∨ (Nm h h' id ∧ CloObj (Nm h h') x)
section
variable {P : Program} {N f : Nat} {cc : CC} {rcs : List RC} {vs : List AV} {h h' h1 : AHeap} {e e' : Env} {Q : Exit → Env → AHeap → Prop} {l : List CI}

theorem Ext.refl : Ext h h := ⟨Nat.le_refl _, fun _ h => h, fun _ _ h => .inl h⟩
theorem Ext.used (hx : Ext h h') {id : Nat} (hu : h.used id) : h'.used id := by
  refine ⟨Nat.lt_of_lt_of_le hu.1 hx.next, ?_⟩
  cases hg : h'.gap id with
  | false => rfl
  | true => have := hx.gap id hg; rw [hu.2] at this; cases this
theorem Ext.set (hx : Ext h h') {id : Nat} {x : AObj} (hn : Nm h h' id) (hc : CloObj (Nm h h') x) : Ext h (h'.set id (some x)) := by
  refine ⟨hx.next, hx.gap, fun j y hg => ?_⟩
  simp only [AHeap.set] at hg
  split at hg
  · rename_i e; subst e; cases hg; exact .inr ⟨hn, hc⟩
  · exact hx.obj j y hg
theorem Ext.del (hx : Ext h h') {id : Nat} : Ext h (h'.set id none) := by
  refine ⟨hx.next, hx.gap, fun j y hg => ?_⟩
  simp only [AHeap.set] at hg
  split at hg
  · cases hg
  · exact hx.obj j y hg
theorem Nm.put {nm id : Nat} {x : AObj} (hn : Nm h h' id) : Nm h (h'.put nm x) id := by
  rcases hn with hn | hn
  · exact .inl (put_used hn)
  · exact .inr hn
theorem Ext.put (hx : Ext h h') {nm : Nat} {x : AObj} (hc : CloObj (Nm h (h'.put nm x)) x) : Ext h (h'.put nm x) := by
  refine ⟨?_, fun id hg => ?_, fun j y hg => ?_⟩
  · have := hx.next; simp only [AHeap.put]; split <;> omega
  · simp only [AHeap.put] at hg
    split at hg
    · cases hg
    · exact hx.gap id hg
  · simp only [AHeap.put] at hg
    split at hg
    · rename_i e; subst e; cases hg; exact .inr ⟨.inl put_used_nm, hc⟩
    · rcases hx.obj j y hg with h5 | ⟨h5, h6⟩
      · exact .inl h5
      · exact .inr ⟨h5.put, h6.mono fun _ h => h.put⟩
theorem Nm.old {id : Nat} {x : AObj} (hg : h.get id = some x) : Nm h h' id := .inr ⟨x, hg⟩

/-- What a call that writes leaves: all else that it made is dropped. -/
structure EffQ (h' : AHeap) (rcs : List RC) (r : AV) (ex : Exit) (e : Env) (h1 : AHeap) : Prop where
  ex : ex = .ret ∨ ex = .normal
  keeps : Keeps h' h1
  res : ∃ rs, resA h1.get e rcs = some rs ∧ Fz h' h1 (fin rs) r
theorem EffQ.fin {x : Exit} {rs : List AV} {r : AV} (hex : x = .ret ∨ x = .normal) (hk : Keeps h' h1) (hr : resA h1.get e rcs = some rs) (hf : Fz h' h1 (Go.Abs.fin rs) r) : EffQ h' rcs r x e h1 := ⟨hex, hk, rs, hr, hf⟩
/-- The heap of the beginning, and the end of the call, told by what it answers and leaves. -/
theorem AC.eff {R : AV → AHeap → Prop} (hfn : FnIs P f N cc rcs) (hn : vs.length ≤ N)
    (hw : AW P N cc (fun ex e h1 => ∃ r h', Ext h h' ∧ EffQ h' rcs r ex e h1 ∧ R r h') (argE 0 vs) h) : AC P f vs h R := by
  have hac : AC P f vs h (fun r1 h1 => ∃ r h', Ext h h' ∧ Keeps h' h1 ∧ Fz h' h1 r1 r ∧ R r h') :=
    AC.intro hfn hn (hw.mono fun ex e h1 ⟨r, h', hx, ⟨q1, q2, rs, q3, q4⟩, q5⟩ => ⟨q1, rs, q3, r, h', hx, q2, q4, q5⟩)
  intro m w cargs hr hl hv
  refine (hac m w cargs hr hl hv).mono fun ex w' ⟨v, m', r1, h1, e1, g1, g2, g3, r, h', hx, hk, hz, hR⟩ => ?_
  have nm : ∀ id, Nm h h' id → h'.used id := fun id hn => by
    rcases hn with hn | ⟨x, hn⟩
    · exact hn
    · exact hx.used (hr.live id x hn)
  have live : ∀ id x, h'.get id = some x → h'.used id := fun id x hg => by
    rcases hx.obj id x hg with h5 | ⟨h5, _⟩
    · exact hx.used (hr.live id x h5)
    · exact nm id h5
  have hs : ∀ id x, h'.get id = some x → h1.get id = some x := fun id x hg => (hk.2 id (live id x hg)).trans hg
  have clo : ∀ id x, h'.get id = some x → CloObj h'.used x := fun id x hg => by
    rcases hx.obj id x hg with h5 | ⟨_, h5⟩
    · refine CloObj.mono (u := h.used) (fun id => hx.used) ?_
      have ho := hr.obj id x h5
      cases x with
      | mem sz c =>
        obtain ⟨_, _, _, _, _, _, p4⟩ := ho
        exact mem_idx fun i cells hi j v hj => (p4.2.2 i cells hi j v hj).clo
      | tail g n => trivial
      | map es =>
        obtain ⟨_, _, _, _, _, _, p4⟩ := ho
        intro kv hkv
        obtain ⟨i, hi, rfl⟩ := List.mem_iff_getElem.1 hkv
        have := p4 i _ _ (List.getElem?_eq_getElem hi)
        exact ⟨this.1.clo, this.2.clo⟩
      | loop =>
        obtain ⟨_, _, _, _, p4⟩ := ho
        exact fun sv hsv => (p4 sv.1 sv.2 hsv).clo
      | dfr => trivial
    · exact h5.mono nm
  have hr' : HR m' h' w' := {
    gapl := fun id hg => Nat.lt_of_lt_of_le (hr.gapl id (hx.gap id hg)) hx.next
    live := live
    inj := fun i j x y b s t hi hj => g1.inj i j x y b s t (hs i x hi) (hs j y hj)
    obj := fun id x hg => by
      have ho := g1.obj id x (hs id x hg)
      have hcl := clo id x hg
      cases x with
      | mem sz c =>
        obtain ⟨b, cc, T, q1, q2, q3, q4⟩ := ho
        exact ⟨b, cc, T, q1, q2, q3, q4.1, q4.2.1, fun i cells hi j v hj => (q4.2.2 i cells hi j v hj).restrict hs (hcl _ (List.mem_of_getElem? hi) _ (List.mem_of_getElem? hj))⟩
      | tail _ _ => exact ho
      | map es =>
        obtain ⟨b, ens, ck, q1, q2, q3, q4⟩ := ho
        exact ⟨b, ens, ck, q1, q2, q3, fun i k v hi => ⟨(q4 i k v hi).1.restrict hs (hcl _ (List.mem_of_getElem? hi)).1, (q4 i k v hi).2.restrict hs (hcl _ (List.mem_of_getElem? hi)).2⟩⟩
      | loop =>
        obtain ⟨q1, T, q2, q3, q4⟩ := ho
        exact ⟨q1, T, q2, q3, fun s v hi => (q4 s v hi).restrict hs (hcl _ hi)⟩
      | dfr => exact ho }
  have st : Step m h w m' h' w' := {
    os := g3.os
    tape := g3.tape
    output := g3.output
    size := g3.size
    kind := fun b cc T fz hb hf => g3.kind b cc T fz hb fun hf1 => hf fun id t x hg => hf1 id t x (hs id x hg)
    free := fun b hb hf => ⟨(g3.free b hb hf).1, fun id t x hg => (g3.free b hb hf).2 id t x (hs id x hg)⟩
    cell := fun b o v hc hn => ⟨(g3.cell b o v hc hn).1, fun ho => (g3.cell b o v hc hn).2 (own_sub hs ho)⟩
    used := fun _ hu => hx.used hu
    live := fun id x hu hg => g3.live id x hu (hs id x hg) }
  exact ⟨v, m', r, h', e1, hr', hz.vr g1 hs live g2, st, hR⟩
theorem AE.effQ {r : AV} (hfn : FnIs P f N cc rcs) (hn : vs.length ≤ N) (hx : Ext h h') (hw : AW P N cc (EffQ h' rcs r) (argE 0 vs) h) : AE P f vs h r h' :=
  AC.eff hfn hn (hw.mono fun _ _ _ hq => ⟨r, h', hx, hq, rfl, rfl⟩)

/-! ### two heaps that read the same -/
theorem heap_ext {a b : AHeap} (h1 : ∀ id, a.get id = b.get id) (h2 : a.next = b.next) (h3 : ∀ id, a.gap id = b.gap id) : a = b := by
  cases a; cases b
  simp only [AHeap.mk.injEq] at *
  exact ⟨funext h1, h2, funext h3⟩
theorem set_set {id : Nat} {x y : Option AObj} : (h.set id x).set id y = h.set id y := by
  refine heap_ext (fun j => ?_) rfl fun _ => rfl
  simp only [AHeap.set]; split <;> rfl
theorem set_comm {i j : Nat} {x y : Option AObj} (hne : i ≠ j) : (h.set i x).set j y = (h.set j y).set i x := by
  refine heap_ext (fun k => ?_) rfl fun _ => rfl
  simp only [AHeap.set]
  split <;> split <;> simp_all
end
end Go.Abs

/- The abstract layer, part 28: walks in few words. -/
namespace Go.Abs
open Go

theorem set_upto {f g : Nat → List AV} {x : List AV} {m i : Nat} (hx : x = f i) : ((List.range m).map (fun k => if k < i then f k else g k)).set i x = (List.range m).map (fun k => if k < i + 1 then f k else g k) := by
  refine List.ext_getElem (by simp) fun j h1 h2 => ?_
  rw [List.getElem_set]
  simp only [List.getElem_map, List.getElem_range]
  split
  · rename_i e; subst e; rw [if_pos (by omega)]; exact hx
  · by_cases h3 : j < i
    · rw [if_pos h3, if_pos (by omega)]
    · rw [if_neg h3, if_neg (by omega)]
theorem upto_none {f g : Nat → List AV} {m : Nat} {x : List AV} (hg : ∀ k, k < m → g k = x) : List.replicate m x = (List.range m).map (fun k => if k < 0 then f k else g k) := by
  refine List.ext_getElem (by simp) fun j h1 h2 => ?_
  simp at h1
  simp [hg j h1]
theorem upto_all {f g : Nat → List AV} {m i : Nat} (hi : m ≤ i) : (List.range m).map (fun k => if k < i then f k else g k) = (List.range m).map f := by
  refine List.map_congr_left fun k hk => ?_
  simp at hk
  rw [if_pos (by omega)]
theorem next_le_put {h : AHeap} {n nm : Nat} {x : AObj} (hn : n ≤ h.next) : n ≤ (h.put nm x).next := by simp only [AHeap.put]; split <;> omega
theorem next_le_set {h : AHeap} {n nm : Nat} {x : Option AObj} (hn : n ≤ h.next) : n ≤ (h.set nm x).next := hn
/-- The program's drawn orders are of every kind. -/
class MO (P : Program) : Prop where
  mo : P.follows .mixedOrders = true
/-- A test's truth, in both ways. -/
inductive BP : Bool → Prop → Prop → Prop
  | lt (a b : Int) : BP (decide (a < b)) (a < b) (b ≤ a)
  | le (a b : Int) : BP (decide (a ≤ b)) (a ≤ b) (b < a)
  | gt (a b : Int) : BP (decide (a > b)) (b < a) (a ≤ b)
  | ge (a b : Int) : BP (decide (a ≥ b)) (b ≤ a) (a < b)
  | eq (a b : Int) : BP (a == b) (a = b) (a ≠ b)
  | ne (a b : Int) : BP (a != b) (a ≠ b) (a = b)
  | dec (p : Prop) [Decidable p] : BP (decide p) p (¬ p)
  | eqL (a b : List UInt8) : BP (a == b) (a = b) (a ≠ b)
  | neL (a b : List UInt8) : BP (a != b) (a ≠ b) (a = b)
  | not (t : Bool) (p q : Prop) (h : BP t p q) : BP (!t) q p
  | var (t : Bool) : BP t (t = true) (t = false)
theorem BP.both {t : Bool} {p q : Prop} (h : BP t p q) : (t = true → p) ∧ (t = false → q) := by
  induction h with
  | lt a b => simp
  | le a b => simp
  | gt a b => simp
  | ge a b => simp
  | eq a b => simp
  | ne a b => simp
  | dec p => simp
  | eqL a b => simp
  | neL a b => simp
  | not t p q _ ih => cases t <;> simp_all
  | var t => exact ⟨id, id⟩

/-- Instructions that turn the heap. -/
def wsI : Ins → Bool
  | .alloc _ | .box _ _ | .store _ _ _ | .mksl _ _ _ _ _ | .app _ _ _ _ | .cpy _ _ _ => true
  | .raw x => match x with
    | .look _ _ _ _ _ | .mlen _ | .caps _ | .slc3 _ _ _ _ _ | .mkif _ _ | .s2b _ | .asrt _ _ _ _ => false
    | _ => true
  | _ => false
def wsL (l : List CI) (xs : List Nat) : List Nat := (List.range l.length).filter fun i => wsI (l.getD i default).i || xs.contains i
def fsL (l : List CI) (ws : List Nat) : List Nat := (List.range l.length).filter fun i => !(ws.contains i) && !(free0 (l.getD i default).i)
/-- All but W's objects are as they were. -/
def PhiW (n : Nat) (W : List Nat) (h0 h2 : AHeap) : Prop := ∀ id, id < n → id ∉ W → h2.get id = h0.get id

section
variable {P : Program} {N : Nat} {e e' : Env} {h h' : AHeap} {Q : Exit → Env → AHeap → Prop} {l : List CI} {Φ : AHeap → Prop} {ws fs : List Nat} {K : Env → AHeap → Prop} {j : Nat}

theorem get_put_tl {nm g n n' : Nat} (hn : n = n') : (h.put nm (.tail g n)).get nm = some (.tail g n') := by subst hn; exact get_put_same
theorem get_set_tl {nm g n n' : Nat} (hn : n = n') : (h.set nm (some (.tail g n))).get nm = some (.tail g n') := by subst hn; exact get_set_same
theorem PhiW.refl {n : Nat} {W : List Nat} : PhiW n W h h := fun _ _ _ => rfl
theorem PhiW.put {n nm : Nat} {W : List Nat} {h0 : AHeap} {x : AObj} (hn : n ≤ nm) (hp : PhiW n W h0 h) : PhiW n W h0 (h.put nm x) := fun id h1 h2 => by
  rw [get_put_ne (by omega)]; exact hp id h1 h2
theorem PhiW.setW {n i : Nat} {W : List Nat} {h0 : AHeap} {x : Option AObj} (hi : i ∈ W) (hp : PhiW n W h0 h) : PhiW n W h0 (h.set i x) := fun id h1 h2 => by
  have hne : id ≠ i := fun e => h2 (by rw [e]; exact hi)
  rw [get_set_ne hne]; exact hp id h1 h2
theorem PhiW.setN {n i : Nat} {W : List Nat} {h0 : AHeap} {x : Option AObj} (hi : n ≤ i) (hp : PhiW n W h0 h) : PhiW n W h0 (h.set i x) := fun id h1 h2 => by
  rw [get_set_ne (by omega)]; exact hp id h1 h2

/-- The walk's goals, under names that nothing looks through: a code, a region's list. -/
structure WW (P : Program) (N : Nat) (c : CC) (Q : Exit → Env → AHeap → Prop) (e : Env) (h : AHeap) : Prop where
  out : AW P N c Q e h
structure WL (P : Program) (N : Nat) (l : List CI) (Q : Exit → Env → AHeap → Prop) (e : Env) (h : AHeap) : Prop where
  out : AL P N l Q e h
theorem WW.mono {c : CC} {Q' : Exit → Env → AHeap → Prop} (hw : WW P N c Q e h) (hq : ∀ ex e h, Q ex e h → Q' ex e h) : WW P N c Q' e h := ⟨hw.out.mono hq⟩
theorem WW.seq {x y : CC} (hw : WW P N x (thenQ (fun e h => WW P N y Q e h) Q) e h) : WW P N (.seq x y) Q e h :=
  ⟨AW.seq (hw.out.mono fun ex e h hq => by cases ex <;> first | exact hq.out | exact hq)⟩
theorem WW.skip (hq : Q .normal e h) : WW P N .skip Q e h := ⟨AW.skip hq⟩
theorem WW.exit {id : Nat} (hq : Q (.exit id) e h) : WW P N (.exit id) Q e h := ⟨AW.exit hq⟩
theorem WW.ret (hq : Q .ret e h) : WW P N .ret Q e h := ⟨AW.ret hq⟩
theorem WW.block {id : Nat} {x : CC} (hw : WW P N x (blockQ id Q) e h) : WW P N (.block id x) Q e h := ⟨AW.block hw.out⟩
theorem WW.reg {l : List CI} (hw : WL P N l Q e h) : WW P N (.reg l) Q e h := ⟨AW.reg hw.out⟩
theorem WW.condT {c : Opd} {x y : CC} (hc : ev e c = some (.bool true)) (hw : WW P N x Q e h) : WW P N (.cond c x y) Q e h := ⟨AW.condT hc hw.out⟩
theorem WW.condF {c : Opd} {x y : CC} (hc : ev e c = some (.bool false)) (hw : WW P N y Q e h) : WW P N (.cond c x y) Q e h := ⟨AW.condF hc hw.out⟩
theorem WW.ifB {c : Opd} {x y : CC} {t : Bool} {p q : Prop} (hc : ev e c = some (.bool t)) (h1 : p → WW P N x Q e h) (h2 : q → WW P N y Q e h)
    (hb : BP t p q := by first | exact BP.lt _ _ | exact BP.le _ _ | exact BP.gt _ _ | exact BP.ge _ _ | exact BP.eq _ _ | exact BP.ne _ _ | exact BP.eqL _ _ | exact BP.neL _ _ | exact BP.dec _ | exact BP.not _ _ _ (BP.lt _ _) | exact BP.not _ _ _ (BP.eq _ _) | exact BP.not _ _ _ (BP.eqL _ _) | exact BP.not _ _ _ (BP.dec _) | exact BP.not _ _ _ (BP.var _) | exact BP.var _) : WW P N (.cond c x y) Q e h :=
  ⟨AW.condB hc (fun ht => (h1 (hb.both.1 ht)).out) (fun ht => (h2 (hb.both.2 ht)).out)⟩
theorem WW.loopE {σ : Type} {c : CC} (E : σ → Env) (I : σ → AHeap → Prop) (μ : σ → Nat) (s₀ : σ) (he : subE (E s₀) e) (h₀ : I s₀ h)
    (round : ∀ s h, I s h → WW P N c (thenQ (fun e' h' => ∃ s', subE (E s') e' ∧ I s' h' ∧ μ s' < μ s) Q) (E s) h) : WW P N (.loop c) Q e h := ⟨AW.loopE E I μ s₀ he h₀ fun s h hi => (round s h hi).out⟩
theorem WW.cvt {c : CC} (hc : Cvt e h e' h') (hw : WW P N c Q e' h') : WW P N c Q e h := ⟨AW.cvt hc hw.out⟩
theorem WW.heap {c : CC} (s : HSub h' h) (hw : WW P N c Q e h') : WW P N c Q e h := ⟨AW.heap s hw.out⟩
theorem WW.env {c : CC} (hs : subE e' e) (hw : WW P N c Q e' h) : WW P N c Q e h := ⟨AW.env hs hw.out⟩
theorem WW.wf {c : CC} (hw : (∀ id x, h.get id = some x → id < h.next) → WW P N c Q e h) : WW P N c Q e h := ⟨fun code hcc m w a hr he =>
  (hw (fun id x hg => (hr.live id x hg).1)).out code hcc m w a hr he⟩
theorem WL.nil (hq : Q .normal e h) : WL P N [] Q e h := ⟨AL.nil hq⟩
theorem WL.auto {c : CI} (hs : Stp c e h e' h') (k : WL P N l Q e' h') : WL P N (c :: l) Q e h := ⟨AL.auto hs k.out⟩
theorem WL.fx {c : CI} {r : Option AV} (hx : FX P N c e h r h') (k : WL P N l Q (putR c.d r e) h') : WL P N (c :: l) Q e h := ⟨AL.fx hx k.out⟩
theorem WL.fq {c : CI} {R : Option AV → AHeap → Prop} (hx : FQ P N c e h R) (k : ∀ r h', R r h' → WL P N l Q (putR c.d r e) h') : WL P N (c :: l) Q e h := ⟨AL.fq hx fun r h' hR => (k r h' hR).out⟩
theorem WL.cvt (hc : Cvt e h e' h') (hw : WL P N l Q e' h') : WL P N l Q e h := ⟨AL.cvt hc hw.out⟩
theorem WL.spB {dd : Option Nat} {i : Ins} {s : Nat} {b t : Bool} {p q : Prop} (hc : lk s e = some (.bool t)) (h1 : p → WL P N (⟨dd, i, some (s, b)⟩ :: l) Q ((s, some (.bool true)) :: e) h) (h2 : q → WL P N (⟨dd, i, some (s, b)⟩ :: l) Q ((s, some (.bool false)) :: e) h)
    (hb : BP t p q := by first | exact BP.lt _ _ | exact BP.le _ _ | exact BP.gt _ _ | exact BP.ge _ _ | exact BP.eq _ _ | exact BP.ne _ _ | exact BP.eqL _ _ | exact BP.neL _ _ | exact BP.dec _ | exact BP.not _ _ _ (BP.lt _ _) | exact BP.not _ _ _ (BP.eq _ _) | exact BP.not _ _ _ (BP.eqL _ _) | exact BP.not _ _ _ (BP.dec _) | exact BP.not _ _ _ (BP.var _) | exact BP.var _) : WL P N (⟨dd, i, some (s, b)⟩ :: l) Q e h :=
  ⟨AL.split hc (fun ht => (h1 (hb.both.1 ht)).out) (fun ht => (h2 (hb.both.2 ht)).out)⟩
theorem WL.call {dd : Nat} {f : Nat} {xs : List Opd} {g : Option (Nat × Bool)} {vs us : List AV} {r : AV} (hv : evL e xs = some us) (hg : met e g) (hs : SubL us vs) (hac : AE P f vs h r h') (k : WL P N l Q ((dd, some r) :: e) h') : WL P N (⟨some dd, .call f xs, g⟩ :: l) Q e h :=
  ⟨AL.callM hv hg ((hac.sub hs).use k.out)⟩
/-- A call whose contract says what it answers, not just one thing. -/
theorem WL.callA {dd : Nat} {f : Nat} {xs : List Opd} {g : Option (Nat × Bool)} {vs us : List AV} {R : AV → AHeap → Prop} (hv : evL e xs = some us) (hg : met e g) (hs : SubL us vs) (hac : AC P f vs h R) (k : ∀ r h', R r h' → WL P N l Q ((dd, some r) :: e) h') : WL P N (⟨some dd, .call f xs, g⟩ :: l) Q e h :=
  ⟨AL.callM hv hg ((hac.sub hs).mono fun r h' hR => (k r h' hR).out)⟩
theorem AC.wf {f : Nat} {vs : List AV} {R : AV → AHeap → Prop} (hw : (∀ id x, h.get id = some x → id < h.next) → AC P f vs h R) : AC P f vs h R := fun m w cargs hr =>
  hw (fun id x hg => (hr.live id x hg).1) m w cargs hr
theorem AE.wf {f : Nat} {vs : List AV} {r : AV} (hw : (∀ id x, h.get id = some x → id < h.next) → AE P f vs h r h') : AE P f vs h r h' := AC.wf hw
theorem AE.pureW {f : Nat} {cc : CC} {rcs : List RC} {vs : List AV} {r : AV} (hfn : FnIs P f N cc rcs) (hn : vs.length ≤ N) (hw : WW P N cc (PureQ h rcs r) (argE 0 vs) h) : AE P f vs h r h := AE.pureQ hfn hn hw.out
theorem AE.effW {f : Nat} {cc : CC} {rcs : List RC} {vs : List AV} {r : AV} (hfn : FnIs P f N cc rcs) (hn : vs.length ≤ N) (hx : Ext h h') (hw : WW P N cc (EffQ h' rcs r) (argE 0 vs) h) : AE P f vs h r h' := AE.effQ hfn hn hx hw.out
theorem AC.effW {f : Nat} {cc : CC} {rcs : List RC} {vs : List AV} {R : AV → AHeap → Prop} (hfn : FnIs P f N cc rcs) (hn : vs.length ≤ N)
    (hw : WW P N cc (fun ex e h1 => ∃ r h', Ext h h' ∧ EffQ h' rcs r ex e h1 ∧ R r h') (argE 0 vs) h) : AC P f vs h R := AC.eff hfn hn hw.out
/-- The exact end: the heap as the walk leaves it. -/
theorem AC.introW {f : Nat} {cc : CC} {rcs : List RC} {vs : List AV} {R : AV → AHeap → Prop} (hfn : FnIs P f N cc rcs) (hn : vs.length ≤ N)
    (hw : WW P N cc (fun ex e h1 => (ex = .ret ∨ ex = .normal) ∧ ∃ rs, resA h1.get e rcs = some rs ∧ R (fin rs) h1) (argE 0 vs) h) : AC P f vs h R := AC.intro hfn hn hw.out
theorem DW.spB {dd : Option Nat} {i : Ins} {s : Nat} {b t : Bool} {p q : Prop} (hc : lk s e = some (.bool t)) (h1 : p → DW P N Φ ws fs K j (⟨dd, i, some (s, b)⟩ :: l) ((s, some (.bool true)) :: e) h) (h2 : q → DW P N Φ ws fs K j (⟨dd, i, some (s, b)⟩ :: l) ((s, some (.bool false)) :: e) h)
    (hb : BP t p q := by first | exact BP.lt _ _ | exact BP.le _ _ | exact BP.gt _ _ | exact BP.ge _ _ | exact BP.eq _ _ | exact BP.ne _ _ | exact BP.eqL _ _ | exact BP.neL _ _ | exact BP.dec _ | exact BP.not _ _ _ (BP.lt _ _) | exact BP.not _ _ _ (BP.eq _ _) | exact BP.not _ _ _ (BP.eqL _ _) | exact BP.not _ _ _ (BP.dec _) | exact BP.not _ _ _ (BP.var _) | exact BP.var _) : DW P N Φ ws fs K j (⟨dd, i, some (s, b)⟩ :: l) e h :=
  DW.split hc (fun ht => h1 (hb.both.1 ht)) (fun ht => h2 (hb.both.2 ht))

/-- A drawn region in which each operation that turns the heap is ordered against all that look at it (xs: calls that turn it). -/
theorem WW.dreg0 [MO P] {es : List (List Nat)} (xs : List Nat) (hc : chkD l es (wsL l xs) [] = true) (hd : DW P N (fun _ => True) (wsL l xs) [] (fun e h => Q .normal e h) 0 l e h) : WW P N (.dreg l es) Q e h := ⟨AW.dreg MO.mo hc trivial hd⟩
/-- One in which what is looked at is not turned (but for W, which is ordered). -/
theorem WW.dregW [MO P] {es : List (List Nat)} (xs W : List Nat) {n : Nat} (hn : h.next = n) (hc : chkD l es (wsL l xs) (fsL l (wsL l xs)) = true) (hd : DW P N (PhiW n W h) (wsL l xs) (fsL l (wsL l xs)) (fun e h => Q .normal e h) 0 l e h) : WW P N (.dreg l es) Q e h := ⟨AW.dreg MO.mo hc PhiW.refl hd⟩
/-- An operation of a drawn region, told by FX. -/
theorem DW.fx0 {c : CI} {r : Option AV} (hx : FX P N c e h r h') (h0 : free0 c.i = false) (hw : ws.contains j = true) (hp : Φ h → Φ h') (hf : fs.contains j = false) (k : DW P N Φ ws fs K (j + 1) l (putR c.d r e) h') : DW P N Φ ws fs K j (c :: l) e h :=
  .fx hx (fun hz => by rw [h0] at hz; cases hz) (fun hz => by rw [hw] at hz; cases hz) hp (fun hz => by rw [hf] at hz; cases hz) k
theorem DW.fxR {c : CI} {r : Option AV} (hx : FX P N c e h r h) (h0 : free0 c.i = false) (hf : fs.contains j = false) (k : DW P N Φ ws fs K (j + 1) l (putR c.d r e) h) : DW P N Φ ws fs K j (c :: l) e h :=
  .fx hx (fun hz => by rw [h0] at hz; cases hz) (fun _ => rfl) id (fun hz => by rw [hf] at hz; cases hz) k
theorem DW.fxF {c : CI} {r : Option AV} (hx : ∀ h2, Φ h2 → FX P N c e h2 r h2) (h0 : free0 c.i = false) (hp : Φ h) (k : DW P N Φ ws fs K (j + 1) l (putR c.d r e) h) : DW P N Φ ws fs K j (c :: l) e h :=
  .fx (hx h hp) (fun hz => by rw [h0] at hz; cases hz) (fun _ => rfl) id (fun _ => hx) k
theorem WL.call0 {f : Nat} {xs : List Opd} {g : Option (Nat × Bool)} {vs us : List AV} {r : AV} (hv : evL e xs = some us) (hg : met e g) (hs : SubL us vs) (hac : AE P f vs h r h') (k : WL P N l Q e h') : WL P N (⟨none, .call f xs, g⟩ :: l) Q e h :=
  ⟨AL.callM hv hg ((hac.sub hs).use k.out)⟩
theorem DW.callS {d : Option Nat} {f : Nat} {xs : List Opd} {g : Option (Nat × Bool)} {vs us : List AV} {r : AV} (hv : evL e xs = some us) (hg : met e g) (hs : SubL us vs) (hf : fs.contains j = false) (hac : AE P f vs h r h) (k : DW P N Φ ws fs K (j + 1) l (putR d (some r) e) h) : DW P N Φ ws fs K j (⟨d, .call f xs, g⟩ :: l) e h :=
  DW.call hv hg hf (hac.sub hs) k
theorem DW.callSF {d : Option Nat} {f : Nat} {xs : List Opd} {g : Option (Nat × Bool)} {vs us : List AV} {r : AV} (hp : Φ h) (hv : evL e xs = some us) (hg : met e g) (hs : SubL us vs) (hac : ∀ h2, Φ h2 → AE P f vs h2 r h2) (k : DW P N Φ ws fs K (j + 1) l (putR d (some r) e) h) : DW P N Φ ws fs K j (⟨d, .call f xs, g⟩ :: l) e h :=
  DW.callF hp hv hg (fun h2 h3 => (hac h2 h3).sub hs) k
theorem DW.callSW {d : Option Nat} {f : Nat} {xs : List Opd} {g : Option (Nat × Bool)} {vs us : List AV} {r : AV} (hv : evL e xs = some us) (hg : met e g) (hs : SubL us vs) (hf : fs.contains j = false) (hw : ws.contains j = true) (hp : Φ h → Φ h') (hac : AE P f vs h r h') (k : DW P N Φ ws fs K (j + 1) l (putR d (some r) e) h') : DW P N Φ ws fs K j (⟨d, .call f xs, g⟩ :: l) e h :=
  DW.callW hv hg hf hw hp (hac.sub hs) k
/-- The next instruction of a region in text order. -/
theorem WL.go {c : CI} (k : WL P N l Q e' h') (hs : Stp c e h e' h' := by exact Stp.auto) : WL P N (c :: l) Q e h := ⟨AL.step hs.ok k.out⟩

/-- A function that only computes returns. -/
theorem PureQ.finD {rcs : List RC} {r : AV} {h1 : AHeap} {rs : List AV} (hf : Fz h h1 (Go.Abs.fin rs) r) (hk : Keeps h h1 := by
    repeat first | with_reducible exact Keeps.refl _ | with_reducible refine Keeps.put ?_ (by omega) _ | with_reducible refine Keeps.set ?_ (by omega) _ | assumption)
    (hr : resA h1.get e rcs = some rs := by
    repeat first | exact resA_nil | (apply resA_t; exact rfl) | (apply resA_c; exact rfl; exact gH; exact (by first | exact getC_at rfl rfl | exact getC_all rfl | exact getC_sub (Nat.le_of_ble_eq_true rfl) (by first | (simp only [putC, AV.cs, encP, encN, encI, encS, encA, List.take_succ_cons, List.take_zero, List.take_nil, List.drop_succ_cons, List.drop_zero, List.drop_nil, List.cons_append, List.nil_append, List.append_nil, List.length_cons, List.length_nil, Nat.zero_add, Nat.add_zero, Nat.reduceAdd]; exact rfl) | exact rfl) | exact getC_sub (by simp) (by first | (simp only [putC, AV.cs, encP, encN, encI, encS, encA, List.take_succ_cons, List.take_zero, List.take_nil, List.drop_succ_cons, List.drop_zero, List.drop_nil, List.cons_append, List.nil_append, List.append_nil, List.length_cons, List.length_nil, Nat.zero_add, Nat.add_zero, Nat.reduceAdd]; exact rfl) | exact rfl)))) : PureQ h rcs r .ret e h1 := PureQ.fin (.inl rfl) hk hr hf
/-- A function that writes returns. -/
theorem EffQ.finD {rcs : List RC} {r : AV} {h1 : AHeap} {rs : List AV} (hk : Keeps h' h1) (hf : Fz h' h1 (Go.Abs.fin rs) r)
    (hr : resA h1.get e rcs = some rs := by
    repeat first | exact resA_nil | (apply resA_t; exact rfl) | (apply resA_c; exact rfl; exact gH; exact (by first | exact getC_at rfl rfl | exact getC_all rfl | exact getC_sub (Nat.le_of_ble_eq_true rfl) (by first | (simp only [putC, AV.cs, encP, encN, encI, encS, encA, List.take_succ_cons, List.take_zero, List.take_nil, List.drop_succ_cons, List.drop_zero, List.drop_nil, List.cons_append, List.nil_append, List.append_nil, List.length_cons, List.length_nil, Nat.zero_add, Nat.add_zero, Nat.reduceAdd]; exact rfl) | exact rfl) | exact getC_sub (by simp) (by first | (simp only [putC, AV.cs, encP, encN, encI, encS, encA, List.take_succ_cons, List.take_zero, List.take_nil, List.drop_succ_cons, List.drop_zero, List.drop_nil, List.cons_append, List.nil_append, List.append_nil, List.length_cons, List.length_nil, Nat.zero_add, Nat.add_zero, Nat.reduceAdd]; exact rfl) | exact rfl)))) : EffQ h' rcs r .ret e h1 := EffQ.fin (.inl rfl) hk hr hf

theorem WW.dregX [MO P] {es : List (List Nat)} (ws fs W : List Nat) {n : Nat} (hn : h.next = n) (hc : chkD l es ws fs = true) (hd : DW P N (PhiW n W h) ws fs (fun e h => Q .normal e h) 0 l e h) : WW P N (.dreg l es) Q e h := ⟨AW.dreg MO.mo hc PhiW.refl hd⟩
/-- An append to nothing, in a drawn region. -/
theorem DW.goI {d : Option Nat} {sz bytes : Nat} {x y : Opd} {g : Option (Nat × Bool)} {v : AV} {c : List (List AV)} (k : DW P N Φ ws fs K (j + 1) l (putR d (some (.imm sz c)) e) h) (hx : ev e x = some .nils := by exact rfl) (hy : ev e y = some v := by exact rfl) (hc : rdS h.get sz v = some c := by exact rfl) (hb : c.length * bytes ≤ 140737488355328 := by first | omega | (simp; done) | (simp; omega)) (hg : met e g := by first | exact True.intro | exact rfl) (hf : fs.contains j = false := by exact rfl) :
    DW P N Φ ws fs K j (⟨d, .app sz bytes x y, g⟩ :: l) e h := DW.fxR (FX.appI hx hy hc hb hg) rfl hf k
theorem DW.goWP {c : CI} {n : Nat} {W : List Nat} {h0 : AHeap} (k : DW P N (PhiW n W h0) ws fs K (j + 1) l e' h') (hs : Stp c e h e' h' := by exact Stp.auto) (hf : fs.contains j = false := by exact rfl) (hw : ws.contains j = true := by exact rfl) (hp : PhiW n W h0 h → PhiW n W h0 h' := by first | exact PhiW.put (by omega) | exact PhiW.setW (by simp) | exact PhiW.setN (by omega)) : DW P N (PhiW n W h0) ws fs K j (c :: l) e h := DW.oneW hw hp hs hf k
/-- Loads wherever they are drawn. -/
theorem DW.goF {c : CI} {n : Nat} {W : List Nat} {h0 : AHeap} (k : DW P N (PhiW n W h0) ws fs K (j + 1) l e' h) (hs : ∀ h2, PhiW n W h0 h2 → Stp c e h2 e' h2 := by
    intro h2 hp2
    first
      | (apply Stp.load1; exact rfl; exact (hp2 _ (by omega) (by first | (simp; done) | (simp; omega))).trans gH; exact (by first | exact getC_at rfl rfl | exact getC_all rfl | exact getC_sub (Nat.le_of_ble_eq_true rfl) (by first | (simp only [putC, AV.cs, encP, encN, encI, encS, encA, List.take_succ_cons, List.take_zero, List.take_nil, List.drop_succ_cons, List.drop_zero, List.drop_nil, List.cons_append, List.nil_append, List.append_nil, List.length_cons, List.length_nil, Nat.zero_add, Nat.add_zero, Nat.reduceAdd]; exact rfl) | exact rfl) | exact getC_sub (by simp) (by first | (simp only [putC, AV.cs, encP, encN, encI, encS, encA, List.take_succ_cons, List.take_zero, List.take_nil, List.drop_succ_cons, List.drop_zero, List.drop_nil, List.cons_append, List.nil_append, List.append_nil, List.length_cons, List.length_nil, Nat.zero_add, Nat.add_zero, Nat.reduceAdd]; exact rfl) | exact rfl)); exact (by first | exact True.intro | exact rfl))
      | (apply Stp.loadp; exact rfl; exact (hp2 _ (by omega) (by first | (simp; done) | (simp; omega))).trans gH; exact (by first | exact map_at (List.getElem?_eq_getElem (by omega)) | exact map_at (List.getElem?_range (by omega)) | exact List.getElem?_eq_getElem (by omega) | exact rfl); exact (by first | exact getC_at rfl rfl | exact getC_all rfl | exact getC_sub (Nat.le_of_ble_eq_true rfl) (by first | (simp only [putC, AV.cs, encP, encN, encI, encS, encA, List.take_succ_cons, List.take_zero, List.take_nil, List.drop_succ_cons, List.drop_zero, List.drop_nil, List.cons_append, List.nil_append, List.append_nil, List.length_cons, List.length_nil, Nat.zero_add, Nat.add_zero, Nat.reduceAdd]; exact rfl) | exact rfl) | exact getC_sub (by simp) (by first | (simp only [putC, AV.cs, encP, encN, encI, encS, encA, List.take_succ_cons, List.take_zero, List.take_nil, List.drop_succ_cons, List.drop_zero, List.drop_nil, List.cons_append, List.nil_append, List.append_nil, List.length_cons, List.length_nil, Nat.zero_add, Nat.add_zero, Nat.reduceAdd]; exact rfl) | exact rfl)); exact (by first | exact True.intro | exact rfl))
      | exact Stp.auto) (hp : PhiW n W h0 h := by repeat first | exact PhiW.refl | refine PhiW.put (by omega) ?_ | refine PhiW.setW (by simp) ?_ | refine PhiW.setN (by omega) ?_) : DW P N (PhiW n W h0) ws fs K j (c :: l) e h := DW.oneF hp hs k
theorem FX.rawN {d : Option Nat} {x : Ex} {g : Option (Nat × Bool)} {r : Option AV} (hx : XOK P N x e h r .none) (hg : met e g) : FX P N ⟨d, .raw x, g⟩ e h r h := FX.raw hx hg
theorem FX.mkmap {d : Option Nat} {g : Option (Nat × Bool)} {nx : Nat} (hn : h.next = nx) (hg : met e g) : FX P N ⟨d, .raw .mkmap, g⟩ e h (some (.map nx)) (h.put nx (.map [])) := by subst hn; exact FX.raw XOK.mkmap hg
theorem FX.appz {d : Option Nat} {g : Option (Nat × Bool)} {sz bytes n nx : Nat} {zs : List AV} {x y : Opd} {k : IntKind} {a : Int} (hx : ev e x = some .nils) (hy : ev e y = some (.int k a)) (ha : a = n) (h0 : 0 < n) (hb : n * bytes ≤ 140737488355328) (hn : h.next = nx) (hg : met e g) :
    FX P N ⟨d, .raw (.appz sz bytes zs x y), g⟩ e h (some (.ref nx 0 n)) (h.put nx (.mem sz (List.replicate n zs))) := by subst hn; exact FX.raw (XOK.appz hx hy ha h0 hb) hg
theorem FX.strish {d : Option Nat} {g : Option (Nat × Bool)} {x : Opd} {id n : Nat} {c : List (List AV)} (hx : ev e x = some (.ref id 0 n)) (hm : h.get id = some (.mem 1 c)) (hl : c.length = n) (h0 : 0 < n) (hg : met e g) : FX P N ⟨d, .raw (.strish x), g⟩ e h (some (.imm 1 c)) (h.set id none) := FX.raw (XOK.strish hx hm hl h0) hg
theorem FX.mput {d : Option Nat} {g : Option (Nat × Bool)} {mk : MK} {x y z : Opd} {id : Nat} {a v : AV} {es : List (AV × AV)} {r : Option (Nat × AV)} (hx : ev e x = some (.map id)) (hy : ev e y = some a) (hz : ev e z = some v) (hm : h.get id = some (.map es)) (hk : keyOK mk a) (hf : findA a es 0 = some r) (hg : met e g) :
    FX P N ⟨d, .raw (.mput mk x y z), g⟩ e h none (h.set id (some (.map (putM es a v r)))) := FX.raw (XOK.mput hx hy hz hm hk hf) hg
theorem FX.look {d : Option Nat} {g : Option (Nat × Bool)} {mk : MK} {z : AV} {ok : Bool} {x y : Opd} {id : Nat} {a v : AV} {es : List (AV × AV)} {r : Option (Nat × AV)} (hx : ev e x = some (.map id)) (hy : ev e y = some a) (hm : h.get id = some (.map es)) (hk : keyOK mk a) (hf : findA a es 0 = some r) (hv : lookR z ok r = v) (hg : met e g) :
    FX P N ⟨d, .raw (.look mk z ok x y), g⟩ e h (some v) h := by subst hv; exact FX.raw (XOK.look hx hy hm hk hf) hg
theorem FX.bslN {d : Option Nat} {sz n nx : Nat} {xs : List Opd} {g : Option (Nat × Bool)} {vs : List AV} {c : List (List AV)} (hv : evL e xs = some vs) (hc : cellsL sz vs = some c) (hl : c.length = n) (hn : h.next = nx) (hg : met e g) : FX P N ⟨d, .bsl sz xs, g⟩ e h (some (.ref nx 0 n)) (h.put nx (.mem sz c)) := by subst hn; exact FX.bslM hv hc hl hg
theorem WL.fx1 {d : Nat} {i : Ins} {g : Option (Nat × Bool)} {v : AV} (hx : FX P N ⟨some d, i, g⟩ e h (some v) h') (k : WL P N l Q ((d, some v) :: e) h') : WL P N (⟨some d, i, g⟩ :: l) Q e h := WL.fx hx k
theorem WL.fx0 {i : Ins} {g : Option (Nat × Bool)} {r : Option AV} (hx : FX P N ⟨none, i, g⟩ e h r h') (k : WL P N l Q e h') : WL P N (⟨none, i, g⟩ :: l) Q e h := WL.fx hx k
theorem WL.fq1 {d : Nat} {i : Ins} {g : Option (Nat × Bool)} {R : Option AV → AHeap → Prop} (hx : FQ P N ⟨some d, i, g⟩ e h R) (k : ∀ r h', R r h' → WL P N l Q ((d, r) :: e) h') : WL P N (⟨some d, i, g⟩ :: l) Q e h := WL.fq hx k
/-- An operation beyond the plain ones, if it needs no thought. -/
theorem WL.gox {d : Nat} {i : Ins} {g : Option (Nat × Bool)} {v : AV} (k : WL P N l Q ((d, some v) :: e) h') (hx : FX P N ⟨some d, i, g⟩ e h (some v) h' := by
    first
      | (apply FX.mkmap; exact gN; exact (by first | exact True.intro | exact rfl))
      | (apply FX.rawN; apply XOK.mlen; exact rfl; exact gH; exact (by first | exact True.intro | exact rfl))
      | (apply FX.rawN; apply XOK.caps0; exact rfl; exact (by first | exact True.intro | exact rfl))
      | (apply FX.rawN; apply XOK.slc00; exact rfl; exact ⟨_, rfl⟩; exact rfl; exact rfl; exact (by first | exact True.intro | exact rfl))
      | (apply FX.rawN; apply XOK.slcNN; exact rfl; exact rfl; exact rfl; exact (by first | with_reducible exact ix2 _ | with_reducible exact ix21 _ | rfl | exact (Int.toNat_of_nonneg (by omega)).symm); exact (by first | with_reducible exact ix2 _ | with_reducible exact ix21 _ | rfl | exact (Int.toNat_of_nonneg (by omega)).symm); exact (by first | omega | (simp; done) | (simp; omega)); exact ⟨_, gH⟩; exact (by first | exact True.intro | exact rfl))
      | (apply FX.appz; exact rfl; exact rfl; exact (by first | with_reducible exact ix2 _ | with_reducible exact ix21 _ | rfl | exact (Int.toNat_of_nonneg (by omega)).symm); exact (by first | omega | (simp; done) | (simp; omega)); exact (by first | omega | (simp; done) | (simp; omega)); exact gN; exact (by first | exact True.intro | exact rfl))) : WL P N (⟨some d, i, g⟩ :: l) Q e h := WL.fx1 hx k

/-- The same in a drawn region. -/
theorem DW.gox {d : Nat} {i : Ins} {g : Option (Nat × Bool)} {v : AV} (k : DW P N Φ ws fs K (j + 1) l ((d, some v) :: e) h) (hx : FX P N ⟨some d, i, g⟩ e h (some v) h := by
    first
      | (apply FX.rawN; apply XOK.mlen; exact rfl; exact gH; exact (by first | exact True.intro | exact rfl))
      | (apply FX.rawN; apply XOK.caps0; exact rfl; exact (by first | exact True.intro | exact rfl))) (h0 : free0 i = false := by exact rfl) (hf : fs.contains j = false := by exact rfl) : DW P N Φ ws fs K j (⟨some d, i, g⟩ :: l) e h := DW.fxR hx h0 hf k
/-! ### what hangs on something that was passed over is passed over -/
structure WS (P : Program) (N : Nat) (S : List Nat) (l : List CI) (Q : Exit → Env → AHeap → Prop) (e : Env) (h : AHeap) : Prop where
  out : ∀ (ops : Array Oper) (idx : List Nat), (∀ i ∈ idx, i < ops.size) → idx.map (fun i => compI P N ops (ops.getD i default)) = l → ∀ m w a, HR m h w → ER N m h w e a → (∀ s ∈ S, a.tmps.getD s undef = undef) → wpOps P ops (PA N Q m h w) idx a w
section
variable {S : List Nat} {m : Inj} {w : World}
theorem WS.off (k : WL P N l Q e h) : WS P N S l Q e h := ⟨fun ops idx hlt hl m w a hr he _ => k.out ops idx hlt hl m w a hr he⟩
theorem put_undef {a : Go.Act} {d s : Nat} (hs : s = d ∨ a.tmps.getD s undef = undef) : (a.put (some d) undef).tmps.getD s undef = undef := by
  simp only [Act.put, Array.getD_eq_getD_getElem?] at hs ⊢
  rw [Array.getElem?_setIfInBounds]
  split
  · split
    · rfl
    · rfl
  · rename_i hne
    rcases hs with rfl | hs
    · exact absurd rfl hne
    · exact hs
theorem WS.skip {d s : Nat} {i : Ins} {b : Bool} (hsk : S.contains s = true ∨ ∃ t, lk s e = some (.bool t) ∧ (!b) = t) (k : WS P N (d :: S) l Q ((d, none) :: e) h) : WS P N S (⟨some d, i, some (s, b)⟩ :: l) Q e h := ⟨fun ops idx hlt hl m w a hr he hS => by
  cases idx with
  | nil => simp at hl
  | cons j idx =>
    simp only [List.map_cons, List.cons.injEq] at hl
    obtain ⟨hc, hl⟩ := hl
    have hilt := hlt j (by simp)
    have ho : ops[j]? = some ops[j] := Array.getElem?_eq_getElem hilt
    have hget : ops.getD j default = ops[j] := by simp [hilt]
    rw [hget] at hc
    have hlt' : ∀ j ∈ idx, j < ops.size := fun j hj => hlt j (by simp [hj])
    rcases compI_ok hc with ⟨hb1, hb2⟩ | ⟨hd, hdst, hcomp, hg⟩
    · cases hb2
    · have hw : Region.wanted ops[j] (yielded ops a.tmps) = false := by
        rcases hsk with hsk | ⟨t, h1, h2⟩
        · cases hgo : ops[j].guard with
          | none => simp only [hgo] at hg; cases hg
          | some jb =>
            obtain ⟨j0, b0⟩ := jb
            simp only [hgo] at hg
            obtain ⟨s0, hs0, hg0⟩ := hg
            cases hg0
            have hu := hS s (by simpa using hsk)
            have hy : yielded ops a.tmps j0 = none := by
              unfold yielded
              rw [hs0]
              simp only [Option.bind_some]
              cases hx : a.tmps[s]? with
              | none => rfl
              | some x => simp [hx] at hu; subst hu; rfl
            simp only [Region.wanted, hgo, hy]
            cases b <;> rfl
        · obtain ⟨w1, w2⟩ := wanted_of he hg
          rw [w2 s b t rfl h1]; subst h2; cases b <;> rfl
      have hd' : (some d : Option Nat) = ops[j].dst := hd
      simp only [wpOps, ho]
      rw [hw]
      simp only [Bool.false_eq_true, if_false]
      rw [← hd']
      refine k.out ops idx hlt' hl m w _ hr (he.skip d undef) fun s' hs' => ?_
      refine put_undef ?_
      rcases List.mem_cons.1 hs' with rfl | hs'
      · exact .inl rfl
      · exact .inr (hS s' hs')⟩
theorem WS.dead {d s : Nat} {i : Ins} {b : Bool} (hs : S.contains s = true) (k : WS P N (d :: S) l Q ((d, none) :: e) h) : WS P N S (⟨some d, i, some (s, b)⟩ :: l) Q e h := .skip (.inl hs) k
theorem WS.unmet {d s : Nat} {i : Ins} {b t : Bool} (h1 : lk s e = some (.bool t)) (h2 : (!b) = t) (k : WS P N (d :: S) l Q ((d, none) :: e) h) : WS P N S (⟨some d, i, some (s, b)⟩ :: l) Q e h := .skip (.inr ⟨t, h1, h2⟩) k
theorem WL.unS {d s : Nat} {i : Ins} {b t : Bool} (h1 : lk s e = some (.bool t)) (h2 : (!b) = t) (k : WS P N [d] l Q ((d, none) :: e) h) : WL P N (⟨some d, i, some (s, b)⟩ :: l) Q e h :=
  ⟨fun ops idx hlt hl m w a hr he => (WS.unmet (S := []) h1 h2 k).out ops idx hlt hl m w a hr he (by simp)⟩
end
theorem blkN {id : Nat} (hq : Q .normal e h) : blockQ id Q .normal e h := hq
/-- A goal that is left, in a wrapping that no search looks into. -/
structure BoxP (B : Prop) : Prop where
  out : B
/-- The walk as far as it needs no thought. -/
theorem go {A B : Prop} (k : B) (hs : BoxP B → A := by
    intro k
    repeat first | refine WL.unS rfl rfl ?_ | refine WS.dead rfl ?_ | refine WS.unmet rfl rfl ?_ | refine WS.off ?_ | refine WL.go ?_ | refine WW.seq ?_ | refine WW.reg ?_ | refine WL.nil ?_ | refine DW.go ?_ | refine DW.endL ?_ | refine WW.skip ?_ | refine WW.block ?_ | refine WW.exit ?_ | refine WW.condT rfl ?_ | refine WW.condF rfl ?_ | refine WL.gox ?_ | refine DW.gox ?_ | refine DW.goW ?_ (fun _ => True.intro) | refine DW.goWP ?_ | refine DW.goI ?_ | refine DW.goF ?_ | refine WW.dreg0 [] (by decide +kernel) ?_ | refine thenN ?_ | refine blkN ?_
    exact BoxP.out k) : A := hs ⟨k⟩
end
end Go.Abs

/- The abstract layer, part 29: 'and', 'or' in one way. -/
namespace Go.Abs
open Go

def splitG (g : Nat × Bool) : List CI → List CI × List CI
  | [] => ([], [])
  | c :: l => match c.g with
    | none => ([], c :: l)
    | some (s, b) => match Nat.beq s g.1, b == g.2 with
      | true, true => (c :: (splitG g l).1, (splitG g l).2)
      | _, _ => ([], c :: l)
theorem splitG_app (g : Nat × Bool) : ∀ l, l = (splitG g l).1 ++ (splitG g l).2
  | [] => rfl
  | c :: l => by
    simp only [splitG]
    split
    · rfl
    · split
      · simpa using splitG_app g l
      · rfl
theorem splitG_g (g : Nat × Bool) : ∀ l, ∀ c ∈ (splitG g l).1, c.g = some g
  | [], c, hc => by simp [splitG] at hc
  | x :: l, c, hc => by
    simp only [splitG] at hc
    split at hc
    · simp at hc
    · rename_i s b hxg
      split at hc
      · rename_i h1 h2
        rcases List.mem_cons.1 hc with rfl | hc
        · rw [hxg]
          have e1 := Nat.eq_of_beq_eq_true h1
          have e2 : b = g.2 := by simpa using h2
          rw [e1, e2]
        · exact splitG_g g l c hc
      · simp at hc
def kill : List CI → Env → Env
  | [], e => e
  | c :: l, e => kill l (putR c.d none e)

section
variable {P : Program} {N : Nat} {e e' : Env} {h h' : AHeap} {Q : Exit → Env → AHeap → Prop} {l l1 rest : List CI} {K : Env → Prop}

/-- A list whose operations leave the heap as it is. -/
inductive GW (P : Program) (N : Nat) (K : Env → Prop) : List CI → Env → AHeap → Prop
  | nil {e : Env} {h : AHeap} (hk : K e) : GW P N K [] e h
  | fx {c : CI} {l : List CI} {e : Env} {h : AHeap} {r : Option AV} (hx : FX P N c e h r h) (k : GW P N K l (putR c.d r e) h) : GW P N K (c :: l) e h
theorem GW.goS {c : CI} (hs : Stp c e h e' h) (k : GW P N K l e' h) : GW P N K (c :: l) e h := by
  obtain ⟨r, he, hx, _⟩ := FX.of_stp (P := P) (N := N) hs
  subst he
  exact .fx hx k
theorem GW.call {d : Option Nat} {f : Nat} {xs : List Opd} {g : Option (Nat × Bool)} {vs us : List AV} {r : AV} (hv : evL e xs = some us) (hg : met e g) (hs : SubL us vs) (hac : AE P f vs h r h) (k : GW P N K l (putR d (some r) e) h) : GW P N K (⟨d, .call f xs, g⟩ :: l) e h :=
  .fx (FX.call hg hv (hac.sub hs)) k

theorem subE_put {e1 e2 : Env} (hs : subE e1 e2) (d : Option Nat) (r : Option AV) : subE (putR d none e1) (putR d r e2) := by
  intro i v hv
  cases d with
  | none => exact hs i v hv
  | some d =>
    simp only [putR, lk_cons] at hv ⊢
    split at hv
    · cases hv
    · rename_i hne; rw [if_neg hne]; exact hs i v hv
theorem AL.gw (hw : GW P N K l1 e h) : ∀ e0, subE e0 e → (∀ e', K e' → subE (kill l1 e0) e' → AL P N rest Q e' h) → AL P N (l1 ++ rest) Q e h := by
  induction hw with
  | nil hk => exact fun e0 hs k => k _ hk hs
  | fx hx _ ih => exact fun e0 hs k => AL.fx hx (ih _ (subE_put hs _ _) k)
theorem lk_kill {s : Nat} {v : AV} : ∀ (l : List CI) {e : Env}, l.all (fun c => c.d != some s) = true → lk s e = some v → lk s (kill l e) = some v
  | [], e, _, hv => hv
  | c :: l, e, ha, hv => by
    simp only [List.all_cons, Bool.and_eq_true] at ha
    refine lk_kill l ha.2 ?_
    cases hd : c.d with
    | none => exact hv
    | some d =>
      have : d ≠ s := by have := ha.1; rw [hd] at this; simpa using this
      simp only [putR, lk_cons]
      rw [if_neg fun e => this e.symm]; exact hv
theorem AL.unmet {s : Nat} {b t : Bool} (hne : t ≠ b) : ∀ (l1 : List CI) {e : Env}, (∀ c ∈ l1, c.g = some (s, b)) → l1.all (fun c => c.d != some s) = true → lk s e = some (.bool t) → AL P N rest Q (kill l1 e) h → AL P N (l1 ++ rest) Q e h
  | [], e, _, _, _, k => k
  | c :: l, e, hg, ha, hs, k => by
    have ha' := ha
    simp only [List.all_cons, Bool.and_eq_true] at ha'
    refine AL.fx (FX.skip (hg c (by simp)) hs hne) (AL.unmet hne l (fun c hc => hg c (by simp [hc])) ha'.2 ?_ k)
    exact lk_kill [c] (by simpa using ha'.1) hs
theorem BP.of {t : Bool} {p q : Prop} (hb : BP t p q := by first | exact BP.lt _ _ | exact BP.le _ _ | exact BP.gt _ _ | exact BP.ge _ _ | exact BP.eq _ _ | exact BP.ne _ _ | exact BP.eqL _ _ | exact BP.neL _ _ | exact BP.dec _ | exact BP.not _ _ _ (BP.lt _ _) | exact BP.not _ _ _ (BP.eq _ _) | exact BP.not _ _ _ (BP.eqL _ _) | exact BP.not _ _ _ (BP.dec _) | exact BP.not _ _ _ (BP.var _) | exact BP.var _) : BP t p q := hb
theorem WL.andB {dd : Option Nat} {i : Ins} {s d r : Nat} {t u : Bool} {p q : Prop} (hs : lk s e = some (.bool t)) (hsp : splitG (s, true) (⟨dd, i, some (s, true)⟩ :: l) = (l1, ⟨some d, .pick (.t s) (.t r) (.c (.bool false)), none⟩ :: rest)) (ha : l1.all (fun c => c.d != some s) = true) (hb : BP t p q)
    (h1 : p → GW P N (fun e' => lk r e' = some (.bool u)) l1 ((s, some (.bool true)) :: e) h) (k : WL P N rest Q ((d, some (.bool (t && u))) :: kill l1 e) h) : WL P N (⟨dd, i, some (s, true)⟩ :: l) Q e h := by
  have hl := splitG_app (s, true) (⟨dd, i, some (s, true)⟩ :: l)
  have hg := splitG_g (s, true) (⟨dd, i, some (s, true)⟩ :: l)
  rw [hsp] at hl hg
  rw [hl]
  cases t with
  | false => exact ⟨AL.unmet (by simp) l1 hg ha hs (AL.auto (Stp.pickF (lk_kill l1 ha hs) rfl trivial) k.out)⟩
  | true =>
    have h0 : subE ((s, some (.bool true)) :: e) e := fun i v hv => by
      simp only [lk_cons] at hv
      split at hv
      · rename_i e1; subst e1; cases hv; exact hs
      · exact hv
    have h2 : subE e ((s, some (.bool true)) :: e) := fun i v hv => by
      simp only [lk_cons]
      split
      · rename_i e1; subst e1; rw [hs] at hv; exact hv
      · exact hv
    refine ⟨AL.env h0 (AL.gw (h1 (hb.both.1 rfl)) _ h2 fun e' hr hk => AL.auto (Stp.pickT (hk s _ (lk_kill l1 ha hs)) hr trivial) (AL.env ?_ k.out))⟩
    intro i v hv
    simp only [lk_cons] at hv ⊢
    split at hv
    · rename_i he; rw [if_pos he]; simpa using hv
    · rename_i hne; rw [if_neg hne]; exact hk i v hv
theorem WL.orB {dd : Option Nat} {i : Ins} {s d r : Nat} {t u : Bool} {p q : Prop} (hs : lk s e = some (.bool t)) (hsp : splitG (s, false) (⟨dd, i, some (s, false)⟩ :: l) = (l1, ⟨some d, .pick (.t s) (.c (.bool true)) (.t r), none⟩ :: rest)) (ha : l1.all (fun c => c.d != some s) = true) (hb : BP t p q)
    (h1 : q → GW P N (fun e' => lk r e' = some (.bool u)) l1 ((s, some (.bool false)) :: e) h) (k : WL P N rest Q ((d, some (.bool (t || u))) :: kill l1 e) h) : WL P N (⟨dd, i, some (s, false)⟩ :: l) Q e h := by
  have hl := splitG_app (s, false) (⟨dd, i, some (s, false)⟩ :: l)
  have hg := splitG_g (s, false) (⟨dd, i, some (s, false)⟩ :: l)
  rw [hsp] at hl hg
  rw [hl]
  cases t with
  | true => exact ⟨AL.unmet (by simp) l1 hg ha hs (AL.auto (Stp.pickT (lk_kill l1 ha hs) rfl trivial) k.out)⟩
  | false =>
    have h0 : subE ((s, some (.bool false)) :: e) e := fun i v hv => by
      simp only [lk_cons] at hv
      split at hv
      · rename_i e1; subst e1; cases hv; exact hs
      · exact hv
    have h2 : subE e ((s, some (.bool false)) :: e) := fun i v hv => by
      simp only [lk_cons]
      split
      · rename_i e1; subst e1; rw [hs] at hv; exact hv
      · exact hv
    refine ⟨AL.env h0 (AL.gw (h1 (hb.both.2 rfl)) _ h2 fun e' hr hk => AL.auto (Stp.pickF (hk s _ (lk_kill l1 ha hs)) hr trivial) (AL.env ?_ k.out))⟩
    intro i v hv
    simp only [lk_cons] at hv ⊢
    split at hv
    · rename_i he; rw [if_pos he]; simpa using hv
    · rename_i hne; rw [if_neg hne]; exact hk i v hv
theorem thenB {id : Nat} {K : Env → AHeap → Prop} (hk : K e h) : blockQ id (thenQ K Q) .normal e h := hk
/-! ### answers told in another way -/
def CvtV (u : AV) (h : AHeap) (v : AV) (h' : AHeap) : Prop := ∀ (m : Inj) (w : World) (c : Value), HR m h w → VR m h w u c → ∃ m', HR m' h' w ∧ VR m' h' w v c ∧ Step m h w m' h' w
theorem CvtV.refl (u : AV) : CvtV u h u h := fun m w c hr hv => ⟨m, hr, hv, Step.refl _ _ _⟩
theorem AC.mapR {f : Nat} {vs : List AV} {R R2 : AV → AHeap → Prop} (hac : AC P f vs h R) (hc : ∀ r h1, R r h1 → ∃ r2 h2, CvtV r h1 r2 h2 ∧ R2 r2 h2) : AC P f vs h R2 := fun m w cargs hr hl hv =>
  (hac m w cargs hr hl hv).mono fun ex w' ⟨v, m', r, h1, e1, g1, g2, g3, hR⟩ => by
    obtain ⟨r2, h2, hcv, hR2⟩ := hc r h1 hR
    obtain ⟨m2, k1, k2, k3⟩ := hcv m' w' v g1 g2
    exact ⟨v, m2, r2, h2, e1, k1, k2, g3.trans k3, hR2⟩
theorem CvtV.grow {id n sz nx : Nat} {c c' : List (List AV)} (hg : h.get id = some (.mem sz c)) (hc : c.take n = c') (hn : h.next = nx) : CvtV (.ref id 0 n) h (.app nx 0 sz c') ((h.set id none).put nx (.tail 0 n)) := fun m w cv hr hv => by
  subst hn hc
  obtain ⟨m', k1, k2, k3⟩ := ref_app hr (next_fresh hr) hg hv
  exact ⟨m', k1, k3, k2⟩
theorem CvtV.adopt {sz nx : Nat} (hn : h.next = nx) : CvtV .nils h (.app nx 0 sz []) (h.put nx (.tail 0 0)) := fun m w cv hr hv => by
  subst hn
  have hf := next_fresh hr
  refine ⟨_, hr.putv hf, ?_, step_putv hr hf⟩
  cases hv with
  | nils0 => exact .app0 _ _ _ put_used_nm (tok_new (by simp [upd]))
  | nils1 a => exact .app1 _ _ _ _ put_used_nm (tok_new (by simp [upd]))
end
end Go.Abs

/- The abstract layer, part 30: maps whose keys are structs. -/
namespace Go.Abs
open Go

section
variable {P : Program} {N : Nat} {e e' : Env} {h h' : AHeap} {l : List CI} {Q : Exit → Env → AHeap → Prop} {m : Inj} {w : World}

/-- Keys that are rows of cells: which one is it? -/
def findB (ks : List CK) (xs : List AV) : List (AV × AV) → Nat → Option (Option (Nat × AV))
  | [], _ => if xs.length = ks.length then some none else none
  | (k', v) :: es, i => match k' with
    | .agg ys => match eqCells ks xs ys with
      | some true => some (some (i, v))
      | some false => findB ks xs es (i + 1)
      | none => none
    | _ => none
theorem findB_len {ks : List CK} {xs : List AV} {r : Option (Nat × AV)} {cs : List MapEntry} {xcs : Array Value} : ∀ {es : List (AV × AV)} {i : Nat}, findB ks xs es i = some r → EntR m h w es cs → CR m h w xs xcs → xs.length = ks.length
  | [], i, hf, _, _ => by
    simp only [findB] at hf
    split at hf
    · assumption
    · cases hf
  | (k', v) :: es, i, hf, _, _ => by
    simp only [findB] at hf
    split at hf
    · split at hf
      · rename_i hq; exact (eqCells_len hq).1
      · rename_i hq; exact (eqCells_len hq).1
      · cases hf
    · cases hf
theorem mkind_a {t : TypeId} {ks : List CK} (hk : mkind P t = some (.a ks)) : flatK P 5 t = some ks ∧ ∃ d, P.underlying t = some d ∧ aggD d = true := by
  unfold mkind at hk
  split at hk
  · cases hk
  · cases hk
  · rename_i hu
    split at hk
    · rw [Option.map_eq_some_iff] at hk
      obtain ⟨a, h1, h2⟩ := hk
      cases h2
      exact ⟨h1, _, hu, rfl⟩
    · cases hk
  · rename_i hu
    split at hk
    · rw [Option.map_eq_some_iff] at hk
      obtain ⟨a, h1, h2⟩ := hk
      cases h2
      exact ⟨h1, _, hu, rfl⟩
    · cases hk
  · cases hk
/-- Cells that are the same are the same values. -/
theorem eqCells_same : ∀ {ks : List CK} {us vs : List AV}, eqCells ks us vs = some true → us = vs ∧ ∀ v ∈ us, (∃ k n, v = .int k n) ∨ (∃ b, v = .bool b) ∨ ∃ s, v = .str s
  | [], us, vs, hq => by
    cases us <;> cases vs <;> simp [eqCells] at hq
    exact ⟨rfl, by simp⟩
  | k :: ks, us, vs, hq => by
    cases us with
    | nil => cases k <;> simp [eqCells] at hq
    | cons u us =>
      cases vs with
      | nil => cases k <;> cases u <;> simp [eqCells] at hq
      | cons v vs =>
        have step : ∀ (t : Bool), (eqCells ks us vs).map (fun r => t && r) = some true → t = true ∧ us = vs ∧ ∀ v ∈ us, (∃ k n, v = .int k n) ∨ (∃ b, v = .bool b) ∨ ∃ s, v = .str s := by
          intro t ht
          cases hr : eqCells ks us vs with
          | none => simp [hr] at ht
          | some r' =>
            simp [hr] at ht
            obtain ⟨rfl, rfl⟩ := ht
            exact ⟨rfl, eqCells_same hr⟩
        cases k <;> cases u <;> cases v <;> simp only [eqCells] at hq <;> try (cases hq; done)
        · split at hq
          · rename_i hk
            obtain ⟨h1, h2, h3⟩ := step _ hq
            have h1' := by simpa using h1
            subst hk; subst h1'; subst h2
            exact ⟨rfl, fun v hv => by rcases List.mem_cons.1 hv with rfl | hv; exact .inl ⟨_, _, rfl⟩; exact h3 v hv⟩
          · cases hq
        · obtain ⟨h1, h2, h3⟩ := step _ hq
          have h1' := by simpa using h1
          subst h1'; subst h2
          exact ⟨rfl, fun v hv => by rcases List.mem_cons.1 hv with rfl | hv; exact .inr (.inl ⟨_, rfl⟩); exact h3 v hv⟩
        · obtain ⟨h1, h2, h3⟩ := step _ hq
          have h1' := by simpa using h1
          subst h1'; subst h2
          exact ⟨rfl, fun v hv => by rcases List.mem_cons.1 hv with rfl | hv; exact .inr (.inr ⟨_, rfl⟩); exact h3 v hv⟩
/-- Real rows of cells that read as one row of plain cells are one. -/
theorem cr_same {us : List AV} {xs ys : Array Value} (hx : CR m h w us xs) (hy : CR m h w us ys) (hp : ∀ v ∈ us, (∃ k n, v = .int k n) ∨ (∃ b, v = .bool b) ∨ ∃ s, v = .str s) : xs = ys ∧ ∀ n, Instr.sameBits (n + 2) (.agg xs) (.agg xs) = true := by
  have one : ∀ i (hi : i < us.length) (x y : Value), VR m h w us[i] x → VR m h w us[i] y → x = y ∧ ∀ n, Instr.sameBits (n + 1) x x = true := by
    intro i hi x y h1 h2
    rcases hp _ (List.getElem_mem hi) with ⟨k, n, hv⟩ | ⟨b, hv⟩ | ⟨s, hv⟩
    · rw [hv] at h1 h2; rw [vr_int h1, vr_int h2]; exact ⟨rfl, fun n => by simp [Instr.sameBits]⟩
    · rw [hv] at h1 h2; rw [vr_bool h1, vr_bool h2]; exact ⟨rfl, fun n => by simp [Instr.sameBits]⟩
    · rw [hv] at h1 h2
      cases h1; cases h2
      exact ⟨rfl, fun n => by simp [Instr.sameBits, (MapKept.bytes_beq _ _).2 rfl]⟩
  have get : ∀ (zs : Array Value) (hz : CR m h w us zs), ∀ i (hi : i < zs.size), VR m h w (us[i]'(by rw [hz.1]; exact hi)) zs[i] := fun zs hz i hi => by
    have := hz.2 i _ (List.getElem?_eq_getElem (by have := hz.1; omega))
    simpa [Array.getD_eq_getD_getElem?, hi] using this
  refine ⟨Array.ext (by rw [← hx.1, ← hy.1]) fun i h1 h2 => (one i (by have := hx.1; omega) _ _ (get xs hx i h1) (get ys hy i h2)).1, fun n => ?_⟩
  simp only [Instr.sameBits, beq_self_eq_true, Bool.true_and, List.all_eq_true]
  rintro ⟨a, b⟩ hab
  obtain ⟨i, hi, he⟩ := List.mem_iff_getElem.1 hab
  simp at hi he
  obtain ⟨rfl, rfl⟩ := he
  exact (one i (by have := hx.1; omega) _ _ (get xs hx i hi) (get xs hx i hi)).2 n

/-! ### may it be a key? -/
def CkT (P : Program) (m : Inj) (h : AHeap) (w : World) (d : Nat) (t : TypeId) (ks : List CK) : Prop :=
  ∀ D em, (∀ us xs, aggD ((P.underlying t).getD .invalid) = true → CR m h w us xs → us.length = ks.length → (Instr.checkKey em (D + d) t (.agg xs)).run P w = .ok () w) ∧
    (aggD ((P.underlying t).getD .invalid) = false → ∀ x, (Instr.checkKey em (D + d) t x).run P w = .ok () w)
theorem CkT.part {d : Nat} {t : TypeId} {ks : List CK} (he : CkT P m h w d t ks) {sz : Nat} {ag : Bool} (ht : tyI P t = some (sz, ag)) (hag : ag = true ∨ sz = 1) (hk : ks.length = sz) (D : Nat) (em : Bool) {us : List AV} {xs : Array Value} {off : Nat} (hx : CR m h w us xs) (hu : off + sz ≤ us.length) :
    ∃ pa, (part t xs off).run P w = .ok pa w ∧ (Instr.checkKey em (D + d) t pa).run P w = .ok () w := by
  obtain ⟨hsz, hagg⟩ := tyI_some ht
  have hat := tyI_agg ht
  cases ag with
  | true => exact ⟨_, by simp [Go.part, hagg, hsz], (he D em).1 _ _ hat (hx.sub off sz hu) (by simp; omega)⟩
  | false =>
    have h10 : sz = 1 := by simpa using hag
    subst h10
    have hxl : off < xs.size := by rw [← hx.1]; omega
    exact ⟨xs[off], by simp [Go.part, hagg, hxl], (he D em).2 hat _⟩
theorem ckK_ok : ∀ (d : Nat) {t : TypeId} {ks : List CK}, flatK P d t = some ks → CkT P m h w d t ks
  | 0, t, ks, hk => by simp [flatK] at hk
  | d + 1, t, ks, hk => by
    intro D em
    have ih : ∀ t ks, flatK P d t = some ks → CkT P m h w d t ks := fun t ks hk => ckK_ok d hk
    rw [show D + (d + 1) = (D + d) + 1 by omega]
    unfold flatK at hk
    split at hk
    · rename_i k hu; exact ⟨fun _ _ ha => by simp [hu, aggD] at ha, fun _ x => by cases x <;> simp [Instr.checkKey, run_underlying hu]⟩
    · rename_i hu; exact ⟨fun _ _ ha => by simp [hu, aggD] at ha, fun _ x => by cases x <;> simp [Instr.checkKey, run_underlying hu]⟩
    · rename_i hu; exact ⟨fun _ _ ha => by simp [hu, aggD] at ha, fun _ x => by cases x <;> simp [Instr.checkKey, run_underlying hu]⟩
    · rename_i fs hu
      split at hk
      · refine ⟨fun us xs _ hx hl => ?_, fun ha => by simp [hu, aggD] at ha⟩
        have key : ∀ (fs : List Field) (o : Nat) {ks : List CK}, flatF (flatK P d) P o fs = some ks → o + ks.length = us.length →
            (forIn fs PUnit.unit fun (f : Field) _ => do
              if f.name ≠ "_" then do
                Instr.checkKey em (D + d) f.type (← part f.type xs f.offset)
                pure (ForInStep.yield PUnit.unit)
              else pure (ForInStep.yield PUnit.unit) : Sem PUnit).run P w = .ok PUnit.unit w := by
          intro fs
          induction fs with
          | nil => intro o ks _ _; simp
          | cons f fs ihf =>
            intro o ks hf hlen
            simp only [flatF] at hf
            split at hf
            · rename_i k1 sz ag g1 g2
              split at hf
              · rename_i hcond
                obtain ⟨hname, rfl, hk1, hag⟩ := hcond
                cases hr : flatF (flatK P d) P (f.offset + sz) fs with
                | none => simp [hr] at hf
                | some k2 =>
                  simp [hr] at hf
                  subst hf
                  simp at hlen
                  obtain ⟨pa, h1, h2⟩ := (ih _ _ g1).part g2 hag hk1 D em hx (off := f.offset) (by omega)
                  have := ihf (f.offset + sz) hr (by omega)
                  simp only [List.forIn_cons, ne_eq, hname, not_false_eq_true, if_true, Sem.run_bind, h1, h2, Result.andThen_ok, Sem.run_pure]
                  exact this
              · cases hf
            · cases hf
        have := key fs.toList 0 hk (by omega)
        simp [Instr.checkKey, run_underlying hu] at this ⊢
        simpa using this
      · cases hk
    · rename_i n el hu
      split at hk
      · rename_i k1 sz ag g1 g2
        split at hk
        · rename_i hcond
          cases hk
          refine ⟨fun us xs _ hx hl => ?_, fun ha => by simp [hu, aggD] at ha⟩
          have hfl : ∀ n, (flatN k1 n).length = n * sz := by
            intro n
            induction n with
            | zero => simp [flatN]
            | succ n ihn => simp [flatN, ihn, hcond.1, Nat.add_mul]; omega
          rw [hfl] at hl
          have key : ∀ (k s : Nat), (s + k) * sz ≤ us.length →
              (forIn (List.range' s k) PUnit.unit fun i _ => do
                Instr.checkKey em (D + d) el (← part el xs (i * (← sizeOf el)))
                pure (ForInStep.yield PUnit.unit) : Sem PUnit).run P w = .ok PUnit.unit w := by
            intro k
            induction k with
            | zero => intro s _; simp
            | succ k ihk =>
              intro s hs
              have hs2 : s * sz + sz ≤ us.length := by
                have : (s + 1) * sz ≤ (s + (k + 1)) * sz := Nat.mul_le_mul_right _ (by omega)
                rw [Nat.add_mul] at this; omega
              obtain ⟨pa, h1, h2⟩ := (ih _ _ g1).part g2 hcond.2 hcond.1 D em hx (off := s * sz) hs2
              simp only [List.range'_succ, List.forIn_cons, Sem.run_bind, (tyI_some g2).1, h1, h2, Result.andThen_ok, Sem.run_pure]
              exact ihk (s + 1) (by rw [show s + 1 + k = s + (k + 1) by omega]; exact hs)
          have := key n 0 (by simp; omega)
          simp only [Instr.checkKey, Sem.run_bind, run_underlying hu, Result.andThen_ok]
          simp only [Std.Legacy.Range.forIn_eq_forIn_range', Std.Legacy.Range.size, Nat.sub_zero, Nat.add_one_sub_one, Nat.div_one]
          rw [this]
          rfl
        · cases hk
      · cases hk
    · cases hk

theorem findAsking_of {kt : TypeId} {d : TypeDesc} {ks : List CK} {xs : List AV} {xcs : Array Value} (hd : P.underlying kt = some d) (hda : aggD d = true) (hfl : flatK P 5 kt = some ks) (hx : CR m h w xs xcs) :
    ∀ {es : List (AV × AV)} {cs : List MapEntry} {i : Nat} {r : Option (Nat × AV)}, EntR m h w es cs → findB ks xs es i = some r →
      ∃ rr, (Instr.findAsking kt (.agg xcs) cs i).run P w = .ok rr w ∧ FindR m h w r rr ∧ ∀ j c, rr = some (j, c) → i ≤ j ∧ ∃ en, cs[j - i]? = some en ∧ en.key = .agg xcs ∧ ∀ n, Instr.sameBits (n + 2) (.agg xcs) (.agg xcs) = true
  | [], [], i, r, _, hf => by
    simp only [findB] at hf
    split at hf
    · cases hf; exact ⟨none, by simp [Instr.findAsking], trivial, fun j c hjc => by cases hjc⟩
    · cases hf
  | [], _ :: _, _, _, he, _ => he.elim
  | _ :: _, [], _, _, he, _ => he.elim
  | (k, v) :: es, c :: cs, i, r, ⟨h1, h2, h3⟩, hf => by
    simp only [findB] at hf
    split at hf
    · rename_i ys
      obtain ⟨ycs, hyc⟩ : ∃ ycs, c.key = .agg ycs := by
        generalize c.key = cc at h1
        cases h1 with
        | agg _ cs _ _ _ => exact ⟨cs, rfl⟩
      have hcy : CR m h w ys ycs := by
        rw [hyc] at h1
        cases h1 with
        | agg _ _ q1 q2 q3 => exact ⟨q1, q3⟩
      have hu : aggD ((P.underlying kt).getD .invalid) = true := by simp [hd, hda]
      split at hf
      · rename_i hs
        cases hf
        have hq := ((flatK_ok (P := P) (m := m) (h := h) (w := w) 5 hfl) 9995).1 _ _ xcs ycs true hu hx hcy hs
        have hq' : (Op.equal kt (.agg xcs) c.key).run P w = .ok true w := by rw [hyc]; exact hq
        obtain ⟨e1, e2⟩ := eqCells_same hs
        subst e1
        obtain ⟨e3, e4⟩ := cr_same hx hcy e2
        exact ⟨some (i, c.val), by simp [Instr.findAsking, hq'], ⟨rfl, h2⟩, fun j cc hjc => by cases hjc; exact ⟨Nat.le_refl _, c, by simp, by rw [hyc, e3], e4⟩⟩
      · rename_i hs
        have hq := ((flatK_ok (P := P) (m := m) (h := h) (w := w) 5 hfl) 9995).1 _ _ xcs ycs false hu hx hcy hs
        have hq' : (Op.equal kt (.agg xcs) c.key).run P w = .ok false w := by rw [hyc]; exact hq
        obtain ⟨rr, q1, q2, q3⟩ := findAsking_of hd hda hfl hx h3 hf
        refine ⟨rr, by simp [Instr.findAsking, hq', q1], q2, fun j cc hjc => ?_⟩
        obtain ⟨h5, en, h6, h7⟩ := q3 j cc hjc
        exact ⟨by omega, en, by rw [show j - i = (j - (i + 1)) + 1 by omega]; simpa using h6, h7⟩
      · cases hf
    · cases hf
theorem run_findKeyA {kt : TypeId} {d : TypeDesc} {xcs : Array Value} {cs : List MapEntry} {rr : Option (Nat × Value)} (hd : P.underlying kt = some d) (hda : aggD d = true) (hf : (Instr.findAsking kt (.agg xcs) cs 0).run P w = .ok rr w) : (Instr.findKey kt (.agg xcs) cs).run P w = .ok rr w := by
  cases cs with
  | nil =>
    simp [Instr.findAsking] at hf
    simp [Instr.findKey, run_underlying hd, Instr.findNow, ← hf]
  | cons c cs =>
    have : Instr.sameNow d (.agg xcs) c.key = none := by
      cases d <;> simp [aggD] at hda <;> simp [Instr.sameNow]
    simp [Instr.findKey, run_underlying hd, Instr.findNow, this, hf]
end
section
variable {P : Program} {N : Nat} {e e' : Env} {h h' : AHeap} {l : List CI} {Q : Exit → Env → AHeap → Prop}
theorem XOK.mputA {ks : List CK} {x y z : Opd} {id : Nat} {xs : List AV} {v : AV} {es : List (AV × AV)} {r : Option (Nat × AV)} (hx : ev e x = some (.map id)) (hy : ev e y = some (.agg xs)) (hz : ev e z = some v) (hg : h.get id = some (.map es)) (hf : findB ks xs es 0 = some r) :
    XOK P N (.mput (.a ks) x y z) e h none (.set id (.map (putM es (.agg xs) v r))) := by
  intro o hc e2 hs m w act hr he
  obtain ⟨t, kt, et, mo, ko, vo, hop, hu, h1, h2, h3, hmk⟩ := cx_mput hc
  have hx2 : ev e2 x = some (.map id) := (ev_congr fun s h => hs s (by simp [xslots, h])).trans hx
  have hy2 : ev e2 y = some (.agg xs) := (ev_congr fun s h => hs s (by simp [xslots, h])).trans hy
  have hz2 : ev e2 z = some v := (ev_congr fun s h => hs s (by simp [xslots, h])).trans hz
  have vm := he.eval h1 hx2
  have vk := he.eval h2 hy2
  have vv := he.eval h3 hz2
  obtain ⟨b, ens, ck, e1, hmb, hb, hlen, hent⟩ := map_obj hr hg vm
  obtain ⟨_, ens0, ck0, p1, p2, p3, p4⟩ := hr.obj _ _ hg
  rw [hmb] at p1; cases p1
  rw [hb] at p2; cases p2
  obtain ⟨hfl, d, hd, hda⟩ := mkind_a hmk
  obtain ⟨xcs, hxc⟩ : ∃ xcs, act.eval ko = .agg xcs := by
    generalize act.eval ko = c at vk
    cases vk with
    | agg _ cs _ _ _ => exact ⟨cs, rfl⟩
  have hcr : CR m h w xs xcs := by
    rw [hxc] at vk
    cases vk with
    | agg _ _ q1 q2 q3 => exact ⟨q1, q3⟩
  obtain ⟨rr, hfn, hfr, hat⟩ := findAsking_of (w := w) hd hda hfl hcr hent hf
  have hck : (Instr.checkKey false 10000 kt (act.eval ko)).run P w = .ok () w := by
    rw [hxc]; exact ((ckK_ok (P := P) (m := m) (h := h) (w := w) 5 hfl) 9995 false).1 _ _ (by simp [hd, hda]) hcr (findB_len hf hent hcr)
  have hfk : (Instr.findKey kt (act.eval ko) ens.toList).run P w = .ok rr w := by
    rw [hxc]; exact run_findKeyA hd hda hfn
  have key : ∃ ens' ck', (Instr.mapUpdate t (act.eval mo) (act.eval ko) (act.eval vo)).run P w = .ok () { w with heap := w.heap.setIfInBounds b (.map ens' ck') } ∧ (putM es (.agg xs) v r).length = ens'.size ∧
      ∀ (i : Nat) (k u : AV), (putM es (.agg xs) v r)[i]? = some (k, u) → VR m h w k (ens'.getD i default).key ∧ VR m h w u (ens'.getD i default).val := by
    rw [e1]
    cases r with
    | none =>
      cases rr with
      | some _ => exact hfr.elim
      | none =>
        refine ⟨ens.push { key := act.eval ko, val := act.eval vo, born := ck }, ck + 1, by simp [Instr.mapUpdate, run_underlying hu, MapKept.run_getObj_map hb, hck, hfk, MapKept.run_setObj_map _ hb, Result.andThen], by simp [putM, hlen], fun i k u hi => ?_⟩
        simp only [putM] at hi
        by_cases hlt : i < es.length
        · rw [List.getElem?_append_left hlt] at hi
          have := p4 i k u hi
          have h5 : (ens.push { key := act.eval ko, val := act.eval vo, born := ck }).getD i default = ens.getD i default := by
            simp [Array.getD_eq_getD_getElem?, Array.getElem?_push_lt (show i < ens.size by omega), show i < ens.size by omega]
          rw [h5]; exact this
        · have hi2 := (List.getElem?_eq_some_iff.1 hi).1
          simp at hi2
          have : i = es.length := by omega
          subst this
          simp at hi
          obtain ⟨rfl, rfl⟩ := hi
          have h5 : (ens.push { key := act.eval ko, val := act.eval vo, born := ck }).getD es.length default = { key := act.eval ko, val := act.eval vo, born := ck } := by
            rw [hlen]; simp [Array.getD_eq_getD_getElem?]
          rw [h5]; exact ⟨vk, vv⟩
    | some iv =>
      cases rr with
      | none => exact hfr.elim
      | some jc =>
        obtain ⟨j, c⟩ := jc
        obtain ⟨i0, v0⟩ := iv
        obtain ⟨q1, q2⟩ := hfr
        subst q1
        obtain ⟨_, en, q4, q7, q8⟩ := hat i0 c rfl
        have q8 := q8 9998
        rw [← hxc] at q7 q8
        have hj : ens[i0]? = some en := by simpa using q4
        refine ⟨ens.modify i0 fun e => { e with key := act.eval ko, val := act.eval vo }, ck, by simp [Instr.mapUpdate, run_underlying hu, MapKept.run_getObj_map hb, hck, hfk, hj, q7, Instr.keyThatStays, q8, MapKept.run_setObj_map _ hb, Result.andThen], by simp [putM, hlen], fun i k u hi => ?_⟩
        simp only [putM] at hi
        by_cases hin : i0 = i
        · subst hin
          have hlt : i0 < es.length := by
            have := (List.getElem?_eq_some_iff.1 hi).1
            simpa using this
          rw [List.getElem?_set_self hlt] at hi
          cases hi
          have h5 : (ens.modify i0 fun e => { e with key := act.eval ko, val := act.eval vo }).getD i0 default = { en with key := act.eval ko, val := act.eval vo } := by
            simp [Array.getD_eq_getD_getElem?, Array.getElem?_modify, hj]
          rw [h5]; exact ⟨vk, vv⟩
        · rw [List.getElem?_set_ne hin] at hi
          have := p4 i k u hi
          have h5 : (ens.modify i0 fun e => { e with key := act.eval ko, val := act.eval vo }).getD i default = ens.getD i default := by
            simp [Array.getD_eq_getD_getElem?, Array.getElem?_modify, hin]
          rw [h5]; exact this
  obtain ⟨ens', ck', hrun, hl', hv'⟩ := key
  have wu : WUpd w { w with heap := w.heap.setIfInBounds b (.map ens' ck') } b := WUpd.map hb
  have st := step_set hr hg hmb (x1 := .map (putM es (.agg xs) v r)) trivial wu
  refine ⟨m, _, hr.set (x1 := .map (putM es (.agg xs) v r)) hg hmb trivial wu ⟨b, ens', ck', hmb, (MapKept.heap_set hb).1, hl', fun i k u hi => ⟨(hv' i k u hi).1.step st, (hv' i k u hi).2.step st⟩⟩, st, ?_⟩
  rcases hop with hop | hop <;> simp [execOp, hop, hrun]


theorem FX.mputA {d : Option Nat} {g : Option (Nat × Bool)} {ks : List CK} {x y z : Opd} {id : Nat} {xs : List AV} {v : AV} {es : List (AV × AV)} {r : Option (Nat × AV)} (hx : ev e x = some (.map id)) (hy : ev e y = some (.agg xs)) (hz : ev e z = some v) (hm : h.get id = some (.map es)) (hf : findB ks xs es 0 = some r) (hg : met e g) :
    FX P N ⟨d, .raw (.mput (.a ks) x y z), g⟩ e h none (h.set id (some (.map (putM es (.agg xs) v r)))) := FX.raw (XOK.mputA hx hy hz hm hf) hg
end
end Go.Abs
