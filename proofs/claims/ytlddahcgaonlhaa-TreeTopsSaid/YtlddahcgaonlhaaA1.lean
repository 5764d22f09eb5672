/- The abstract layer, part 1: what a new block, a store, an append, a draw do to the tie between heap and memory. -/
import Derived.Test.YtlddahcgaonlhaaA0
set_option linter.all false
namespace Go.Abs
open Go

def AHeap.put (h : AHeap) (nm : Nat) (x : AObj) : AHeap :=
  { get := fun j => if j = nm then some x else h.get j, next := if nm < h.next then h.next else nm + 1, gap := fun j => if j = nm then false else h.gap j }
def AHeap.set (h : AHeap) (id : Nat) (x : Option AObj) : AHeap := { h with get := fun j => if j = id then x else h.get j }
def upd (m : Inj) (nm : Nat) (p : Option (Nat × Nat)) : Inj := fun j => if j = nm then p else m j

section
variable {m : Inj} {h : AHeap} {w : World}

theorem put_used {nm id : Nat} {x : AObj} (hu : h.used id) : (h.put nm x).used id := by
  obtain ⟨h1, h2⟩ := hu
  refine ⟨?_, ?_⟩
  · simp only [AHeap.put]; split <;> omega
  · simp only [AHeap.put]; split <;> simp_all
theorem put_used_nm {nm : Nat} {x : AObj} : (h.put nm x).used nm := by
  refine ⟨?_, by simp [AHeap.put]⟩
  simp only [AHeap.put]; split <;> omega
theorem used_ne {nm id : Nat} (hf : ¬ h.used nm) (hu : h.used id) : id ≠ nm := fun e => hf (e ▸ hu)

/-- Putting a name: common part. -/
theorem HR.put_gapl (hr : HR m h w) {nm : Nat} {x : AObj} : ∀ id, (h.put nm x).gap id = true → id < (h.put nm x).next := by
  intro id hg
  simp only [AHeap.put] at hg ⊢
  split at hg
  · cases hg
  · have := hr.gapl id hg; split <;> omega
theorem HR.put_live (hr : HR m h w) {nm : Nat} {x : AObj} : ∀ id y, (h.put nm x).get id = some y → (h.put nm x).used id := by
  intro id y hg
  by_cases e : id = nm
  · subst e; exact put_used_nm
  · simp only [AHeap.put, if_neg e] at hg
    exact put_used (hr.live id y hg)

theorem Step.of_heap {w' : World} (h1 : w'.os = w.os) (h2 : w'.tape = w.tape) (h3 : w'.output = w.output) (h4 : w'.heap = w.heap) : Step m h w m h w' :=
  ⟨h1, h2, h3, by rw [h4]; exact Nat.le_refl _, fun b cc T fz hb _ => ⟨cc, by rw [h4]; exact hb, rfl⟩, fun b _ hf => ⟨by rw [h4], hf⟩,
    fun b o v hc hn => ⟨by rw [← hc]; simp [World.cell?, h4], hn⟩, fun _ hu => hu, fun _ x _ hg => ⟨x, hg, fun _ => rfl, Compat.refl x⟩⟩
theorem HR.of_heap (hr : HR m h w) {w' : World} (s : Step m h w m h w') (h4 : w'.heap = w.heap) : HR m h w' :=
  ⟨hr.gapl, hr.live, hr.inj, fun id x hg => (hr.obj id x hg).step s rfl fun _ _ _ => by rw [h4]⟩

theorem step_drew : Step m h w m h w.drew := Step.of_heap rfl rfl rfl rfl
theorem HR.drew (hr : HR m h w) : HR m h w.drew := hr.of_heap step_drew rfl

/-- A new block that nobody owns. -/
theorem step_alloc (hr : HR m h w) (o : Obj) : Step m h w m h (w.alloc o) where
  os := rfl
  tape := rfl
  output := rfl
  size := by simp
  kind := fun b cc T fz hb _ => ⟨cc, by rw [heap_alloc_old w o (Array.getElem?_eq_some_iff.1 hb).1]; exact hb, rfl⟩
  free := fun b hb hf => ⟨heap_alloc_old w o hb, hf⟩
  cell := fun b k v hc hn => ⟨by rw [World.cell?_alloc_lt w _ _ (World.block_lt_of_cell? w _ hc)]; exact hc, hn⟩
  used := fun _ hu => hu
  live := fun _ x _ hg => ⟨x, hg, fun _ => rfl, Compat.refl x⟩
theorem HR.alloc (hr : HR m h w) (o : Obj) : HR m h (w.alloc o) :=
  ⟨hr.gapl, hr.live, hr.inj, fun id x hg => (hr.obj id x hg).step (step_alloc hr o) rfl fun b t hm => heap_alloc_old w o ((hr.obj id x hg).lt hm)⟩

/-- A new block with a name. -/
theorem step_put (hr : HR m h w) {nm : Nat} (hf : ¬ h.used nm) (x : AObj) (o : Obj) (t : Nat) : Step m h w (upd m nm (some (w.heap.size, t))) (h.put nm x) (w.alloc o) where
  os := rfl
  tape := rfl
  output := rfl
  size := by simp
  kind := fun b cc T fz hb _ => ⟨cc, by rw [heap_alloc_old w o (Array.getElem?_eq_some_iff.1 hb).1]; exact hb, rfl⟩
  free := fun b hb hfr => ⟨heap_alloc_old w o hb, fun id s y hg hm => by
    by_cases e : id = nm
    · subst e; simp only [upd, if_true] at hm; cases hm; omega
    · simp only [AHeap.put, if_neg e] at hg; simp only [upd, if_neg e] at hm; exact hfr id s y hg hm⟩
  cell := fun b k v hc hn => ⟨by rw [World.cell?_alloc_lt w _ _ (World.block_lt_of_cell? w _ hc)]; exact hc, fun ⟨id, s, ⟨y, hg⟩, hm, hle⟩ => by
    by_cases e : id = nm
    · subst e; simp only [upd, if_true] at hm; cases hm
      have := World.block_lt_of_cell? w _ hc
      simp at this
    · simp only [AHeap.put, if_neg e] at hg; simp only [upd, if_neg e] at hm; exact hn ⟨id, s, ⟨y, hg⟩, hm, hle⟩⟩
  used := fun _ hu => put_used hu
  live := fun id x' hu hg => by
    have e : id ≠ nm := used_ne hf hu
    simp only [AHeap.put, if_neg e] at hg
    exact ⟨x', hg, fun _ => by simp [upd, e], Compat.refl _⟩
theorem HR.put (hr : HR m h w) {nm : Nat} (hf : ¬ h.used nm) {x : AObj} {o : Obj} {t : Nat} (hx : OR (upd m nm (some (w.heap.size, t))) (h.put nm x) (w.alloc o) nm x) :
    HR (upd m nm (some (w.heap.size, t))) (h.put nm x) (w.alloc o) where
  gapl := hr.put_gapl
  live := hr.put_live
  inj := fun i j y z b s r hi hj hmi hmj => by
    by_cases ei : i = nm <;> by_cases ej : j = nm
    · rw [ei, ej]
    · subst ei
      simp only [upd, if_true] at hmi
      simp only [upd, if_neg ej] at hmj
      simp only [AHeap.put, if_neg ej] at hj
      cases hmi
      have := (hr.obj j z hj).lt hmj
      omega
    · subst ej
      simp only [upd, if_true] at hmj
      simp only [upd, if_neg ei] at hmi
      simp only [AHeap.put, if_neg ei] at hi
      cases hmj
      have := (hr.obj i y hi).lt hmi
      omega
    · simp only [AHeap.put, if_neg ei, if_neg ej] at hi hj
      simp only [upd, if_neg ei, if_neg ej] at hmi hmj
      exact hr.inj i j y z b s r hi hj hmi hmj
  obj := fun id y hg => by
    by_cases e : id = nm
    · subst e; simp only [AHeap.put, if_true] at hg; cases hg; exact hx
    · simp only [AHeap.put, if_neg e] at hg
      exact (hr.obj id y hg).step (step_put hr hf x o t) (by simp [upd, e]) fun b s hm => heap_alloc_old w o ((hr.obj id y hg).lt hm)

/-- A name that owns nothing (a token of an empty slice). -/
theorem step_putv (hr : HR m h w) {nm : Nat} (hf : ¬ h.used nm) : Step m h w (upd m nm none) (h.put nm (.tail 0 0)) w where
  os := rfl
  tape := rfl
  output := rfl
  size := Nat.le_refl _
  kind := fun b cc T fz hb _ => ⟨cc, hb, rfl⟩
  free := fun b hb hfr => ⟨rfl, fun id s y hg hm => by
    by_cases e : id = nm
    · subst e; simp [upd] at hm
    · simp only [AHeap.put, if_neg e] at hg; simp only [upd, if_neg e] at hm; exact hfr id s y hg hm⟩
  cell := fun b k v hc hn => ⟨hc, fun ⟨id, s, ⟨y, hg⟩, hm, hle⟩ => by
    by_cases e : id = nm
    · subst e; simp [upd] at hm
    · simp only [AHeap.put, if_neg e] at hg; simp only [upd, if_neg e] at hm; exact hn ⟨id, s, ⟨y, hg⟩, hm, hle⟩⟩
  used := fun _ hu => put_used hu
  live := fun id x' hu hg => by
    have e : id ≠ nm := used_ne hf hu
    simp only [AHeap.put, if_neg e] at hg
    exact ⟨x', hg, fun _ => by simp [upd, e], Compat.refl _⟩
theorem HR.putv (hr : HR m h w) {nm : Nat} (hf : ¬ h.used nm) : HR (upd m nm none) (h.put nm (.tail 0 0)) w where
  gapl := hr.put_gapl
  live := hr.put_live
  inj := fun i j y z b s r hi hj hmi hmj => by
    by_cases ei : i = nm
    · subst ei; simp [upd] at hmi
    · by_cases ej : j = nm
      · subst ej; simp [upd] at hmj
      · simp only [AHeap.put, if_neg ei, if_neg ej] at hi hj
        simp only [upd, if_neg ei, if_neg ej] at hmi hmj
        exact hr.inj i j y z b s r hi hj hmi hmj
  obj := fun id y hg => by
    by_cases e : id = nm
    · subst e; simp only [AHeap.put, if_true] at hg; cases hg; intro b t hm; simp [upd] at hm
    · simp only [AHeap.put, if_neg e] at hg
      exact (hr.obj id y hg).step (step_putv hr hf) (by simp [upd, e]) fun b s hm => rfl

/-- A name is given up. -/
theorem step_del (id : Nat) : Step m h w m (h.set id none) w where
  os := rfl
  tape := rfl
  output := rfl
  size := Nat.le_refl _
  kind := fun b cc T fz hb _ => ⟨cc, hb, rfl⟩
  free := fun b hb hfr => ⟨rfl, fun j s y hg hm => by
    by_cases e : j = id
    · simp [AHeap.set, e] at hg
    · simp only [AHeap.set, if_neg e] at hg; exact hfr j s y hg hm⟩
  cell := fun b k v hc hn => ⟨hc, fun ⟨j, s, ⟨y, hg⟩, hm, hle⟩ => by
    by_cases e : j = id
    · simp [AHeap.set, e] at hg
    · simp only [AHeap.set, if_neg e] at hg; exact hn ⟨j, s, ⟨y, hg⟩, hm, hle⟩⟩
  used := fun _ hu => hu
  live := fun j x' _ hg => by
    by_cases e : j = id
    · simp [AHeap.set, e] at hg
    · simp only [AHeap.set, if_neg e] at hg; exact ⟨x', hg, fun _ => rfl, Compat.refl _⟩
theorem HR.del (hr : HR m h w) (id : Nat) : HR m (h.set id none) w := by
  have sub : ∀ j y, (h.set id none).get j = some y → h.get j = some y := fun j y hg => by
    by_cases e : j = id
    · simp [AHeap.set, e] at hg
    · simpa only [AHeap.set, if_neg e] using hg
  exact ⟨hr.gapl, fun j y hg => hr.live j y (sub j y hg), fun i j y z b s r hi hj => hr.inj i j y z b s r (sub i y hi) (sub j z hj),
    fun j y hg => (hr.obj j y (sub j y hg)).step (step_del id) rfl fun _ _ _ => rfl⟩

/-- The world w' is w but for block b. -/
structure WUpd (w w' : World) (b : Nat) : Prop where
  os : w'.os = w.os
  tape : w'.tape = w.tape
  output : w'.output = w.output
  size : w'.heap.size = w.heap.size
  other : ∀ k, k ≠ b → w'.heap[k]? = w.heap[k]?
  kind : ∀ (cc : Array Value) (T : TypeId) (fz : Nat × Nat), w.heap[b]? = some (Obj.cells cc T fz) → ∃ cc' : Array Value, w'.heap[b]? = some (Obj.cells cc' T fz) ∧ cc'.size = cc.size

theorem WUpd.setRow (w : World) (b : Nat) (cs cs' : Array Value) (T : TypeId) (fz : Nat × Nat) (hb : w.heap[b]? = some (.cells cs T fz)) (hs : cs'.size = cs.size) : WUpd w (w.setRow b cs') b :=
  ⟨rfl, rfl, rfl, by simp, fun k hk => setRow_other w b k cs' hk, fun cc T' fz' h => by
    rw [hb] at h; cases h; exact ⟨cs', setRow_heap w b cs cs' T fz hb, hs⟩⟩

theorem step_set (hr : HR m h w) {id : Nat} {x x1 : AObj} (hid : h.get id = some x) {b : Nat} (hm : m id = some (b, 0)) (hc : Compat x x1) {w' : World} (wu : WUpd w w' b) :
    Step m h w m (h.set id (some x1)) w' where
  os := wu.os
  tape := wu.tape
  output := wu.output
  size := by rw [wu.size]; exact Nat.le_refl _
  kind := fun k cc T fz hb _ => by
    by_cases e : k = b
    · subst e; exact wu.kind cc T fz hb
    · exact ⟨cc, by rw [wu.other k e]; exact hb, rfl⟩
  free := fun k hk hf => by
    have hne : k ≠ b := fun e => hf id 0 x hid (e ▸ hm)
    refine ⟨wu.other k hne, fun j s y hg hmj => ?_⟩
    by_cases e : j = id
    · subst e; rw [hm] at hmj; cases hmj; exact hne rfl
    · simp only [AHeap.set, if_neg e] at hg; exact hf j s y hg hmj
  cell := fun k o v hcell hn => by
    have hne : k ≠ b := fun e => hn ⟨id, 0, ⟨x, hid⟩, e ▸ hm, Nat.zero_le _⟩
    refine ⟨by rw [← hcell]; exact World.cell?_of_block (wu.other k hne), fun ⟨j, s, ⟨y, hg⟩, hmj, hle⟩ => hn ?_⟩
    by_cases e : j = id
    · subst e; exact ⟨j, s, ⟨x, hid⟩, hmj, hle⟩
    · simp only [AHeap.set, if_neg e] at hg; exact ⟨j, s, ⟨y, hg⟩, hmj, hle⟩
  used := fun _ hu => hu
  live := fun j x' _ hg => by
    by_cases e : j = id
    · subst e; simp only [AHeap.set, if_true] at hg; cases hg; exact ⟨x, hid, fun _ => rfl, hc⟩
    · simp only [AHeap.set, if_neg e] at hg; exact ⟨x', hg, fun _ => rfl, Compat.refl _⟩
theorem HR.set (hr : HR m h w) {id : Nat} {x x1 : AObj} (hid : h.get id = some x) {b : Nat} (hm : m id = some (b, 0)) (hc : Compat x x1) {w' : World} (wu : WUpd w w' b)
    (hx : OR m (h.set id (some x1)) w' id x1) : HR m (h.set id (some x1)) w' where
  gapl := hr.gapl
  live := fun j y hg => by
    by_cases e : j = id
    · subst e; exact hr.live j x hid
    · simp only [AHeap.set, if_neg e] at hg; exact hr.live j y hg
  inj := fun i j y z c s r hi hj hmi hmj => by
    have live : ∀ k u, (h.set id (some x1)).get k = some u → ∃ u', h.get k = some u' := fun k u hk => by
      by_cases e : k = id
      · exact ⟨x, e ▸ hid⟩
      · simp only [AHeap.set, if_neg e] at hk; exact ⟨u, hk⟩
    obtain ⟨y', hy'⟩ := live i y hi
    obtain ⟨z', hz'⟩ := live j z hj
    exact hr.inj i j y' z' c s r hy' hz' hmi hmj
  obj := fun j y hg => by
    by_cases e : j = id
    · subst e; simp only [AHeap.set, if_true] at hg; cases hg; exact hx
    · simp only [AHeap.set, if_neg e] at hg
      refine (hr.obj j y hg).step (step_set hr hid hm hc wu) rfl fun c t hmj => wu.other c fun ec => e (hr.inj j id y x b t 0 hg hid (ec ▸ hmj) hm)

/-- The tail of a row is written in place: the token grows. -/
theorem step_tok (hr : HR m h w) {id g n g' n' : Nat} (hid : h.get id = some (.tail g n)) {b t t' : Nat} (hm : m id = some (b, t)) (htt : t ≤ t') (hcc : Compat (.tail g n) (.tail g' n')) (hsm : Same (.tail g n) (.tail g' n') → t' = t) {w' : World} (wu : WUpd w w' b)
    (hlow : ∀ o v, o < t → w.cell? ⟨b, o, none⟩ = some v → w'.cell? ⟨b, o, none⟩ = some v) :
    Step m h w (upd m id (some (b, t'))) (h.set id (some (.tail g' n'))) w' := by
  have sub : ∀ j y, j ≠ id → (h.set id (some (.tail g' n'))).get j = some y → h.get j = some y := fun j y hj hg => by
    simpa only [AHeap.set, if_neg hj] using hg
  exact {
    os := wu.os
    tape := wu.tape
    output := wu.output
    size := by rw [wu.size]; exact Nat.le_refl _
    kind := fun k cc T fz hb _ => by
      by_cases e : k = b
      · subst e; exact wu.kind cc T fz hb
      · exact ⟨cc, by rw [wu.other k e]; exact hb, rfl⟩
    free := fun k hk hfr => by
      have hkb : k ≠ b := fun e => hfr id t _ hid (e ▸ hm)
      refine ⟨wu.other k hkb, fun j s y hg hmj => ?_⟩
      by_cases e : j = id
      · subst e; simp only [upd, if_true] at hmj; cases hmj; exact hkb rfl
      · simp only [upd, if_neg e] at hmj; exact hfr j s y (sub j y e hg) hmj
    cell := fun k o v hcell hn => by
      refine ⟨?_, fun ⟨j, s, ⟨y, hg⟩, hmj, hle⟩ => ?_⟩
      · by_cases e : k = b
        · subst e
          refine hlow o v ?_ hcell
          rcases Nat.lt_or_ge o t with h1 | h1
          · exact h1
          · exact absurd ⟨id, t, ⟨_, hid⟩, hm, h1⟩ hn
        · rw [← hcell]; exact World.cell?_of_block (wu.other k e)
      · by_cases e : j = id
        · subst e; simp only [upd, if_true] at hmj; cases hmj; exact hn ⟨j, t, ⟨_, hid⟩, hm, by omega⟩
        · simp only [upd, if_neg e] at hmj; exact hn ⟨j, s, ⟨y, sub j y e hg⟩, hmj, hle⟩
    used := fun _ hu => hu
    live := fun j x' hu hg => by
      by_cases e : j = id
      · subst e
        simp only [AHeap.set, if_true] at hg
        cases hg
        exact ⟨_, hid, fun hs => by simp only [upd, if_true]; rw [hm, hsm hs], hcc⟩
      · exact ⟨x', sub j x' e hg, fun _ => by simp [upd, e], Compat.refl _⟩ }
theorem HR.tok (hr : HR m h w) {id g n g' n' : Nat} (hid : h.get id = some (.tail g n)) {b t t' : Nat} (hm : m id = some (b, t)) (htt : t ≤ t') (hcc : Compat (.tail g n) (.tail g' n')) (hsm : Same (.tail g n) (.tail g' n') → t' = t) {w' : World} (wu : WUpd w w' b)
    (hlow : ∀ o v, o < t → w.cell? ⟨b, o, none⟩ = some v → w'.cell? ⟨b, o, none⟩ = some v) : HR (upd m id (some (b, t'))) (h.set id (some (.tail g' n'))) w' := by
  have sub : ∀ j y, j ≠ id → (h.set id (some (.tail g' n'))).get j = some y → h.get j = some y := fun j y hj hg => by
    simpa only [AHeap.set, if_neg hj] using hg
  have st := step_tok hr hid hm htt hcc hsm wu hlow
  exact {
    gapl := hr.gapl
    live := fun j y hg => by
      by_cases e : j = id
      · subst e; exact hr.live j _ hid
      · exact hr.live j y (sub j y e hg)
    inj := fun i j y z c s r hi hj hmi hmj => by
      by_cases ei : i = id <;> by_cases ej : j = id
      · rw [ei, ej]
      · subst ei
        simp only [upd, if_true] at hmi
        simp only [upd, if_neg ej] at hmj
        cases hmi
        exact absurd (hr.inj j i _ _ b r t (sub j z ej hj) hid hmj hm) ej
      · subst ej
        simp only [upd, if_true] at hmj
        simp only [upd, if_neg ei] at hmi
        cases hmj
        exact absurd (hr.inj i j _ _ b s t (sub i y ei hi) hid hmi hm) ei
      · simp only [upd, if_neg ei, if_neg ej] at hmi hmj
        exact hr.inj i j y z c s r (sub i y ei hi) (sub j z ej hj) hmi hmj
    obj := fun j y hg => by
      by_cases e : j = id
      · subst e
        simp only [AHeap.set, if_true] at hg
        cases hg
        intro c s hmc
        simp only [upd, if_true] at hmc
        cases hmc
        obtain ⟨cc, T, hb⟩ := hr.obj j _ hid b t hm
        obtain ⟨cc', hb', _⟩ := wu.kind cc T (0, 0) hb
        exact ⟨cc', T, hb'⟩
      · have hg' := sub j y e hg
        refine (hr.obj j y hg').step st (by simp [upd, e]) fun c s hmj => wu.other c fun ec => e (hr.inj j id y _ b s t hg' hid (ec ▸ hmj) hm) }

/-- A token's row moves to a new block. -/
theorem step_mv (hr : HR m h w) {id g n g' n' : Nat} (hid : h.get id = some (.tail g n)) (hcc : Compat (.tail g n) (.tail g' n')) (hsm : ¬ Same (.tail g n) (.tail g' n')) (o : Obj) (t : Nat) :
    Step m h w (upd m id (some (w.heap.size, t))) (h.set id (some (.tail g' n'))) (w.alloc o) where
  os := rfl
  tape := rfl
  output := rfl
  size := by simp
  kind := fun b cc T fz hb _ => ⟨cc, by rw [heap_alloc_old w o (Array.getElem?_eq_some_iff.1 hb).1]; exact hb, rfl⟩
  free := fun b hb hfr => ⟨heap_alloc_old w o hb, fun j s y hg hmj => by
    by_cases e : j = id
    · subst e; simp only [upd, if_true] at hmj; cases hmj; omega
    · simp only [AHeap.set, if_neg e] at hg; simp only [upd, if_neg e] at hmj; exact hfr j s y hg hmj⟩
  cell := fun b k v hc hn => ⟨by rw [World.cell?_alloc_lt w _ _ (World.block_lt_of_cell? w _ hc)]; exact hc, fun ⟨j, s, ⟨y, hg⟩, hmj, hle⟩ => by
    by_cases e : j = id
    · subst e; simp only [upd, if_true] at hmj; cases hmj
      have := World.block_lt_of_cell? w _ hc
      simp at this
    · simp only [AHeap.set, if_neg e] at hg; simp only [upd, if_neg e] at hmj; exact hn ⟨j, s, ⟨y, hg⟩, hmj, hle⟩⟩
  used := fun _ hu => hu
  live := fun j x' hu hg => by
    by_cases e : j = id
    · subst e
      simp only [AHeap.set, if_true] at hg
      cases hg
      exact ⟨_, hid, fun hs => absurd hs hsm, hcc⟩
    · simp only [AHeap.set, if_neg e] at hg
      exact ⟨x', hg, fun _ => by simp [upd, e], Compat.refl _⟩
theorem HR.mv (hr : HR m h w) {id g n g' n' : Nat} (hid : h.get id = some (.tail g n)) (hcc : Compat (.tail g n) (.tail g' n')) (hsm : ¬ Same (.tail g n) (.tail g' n')) (cc : Array Value) (T : TypeId) (t : Nat) :
    HR (upd m id (some (w.heap.size, t))) (h.set id (some (.tail g' n'))) (w.alloc (.cells cc T)) where
  gapl := hr.gapl
  live := fun j y hg => by
    by_cases e : j = id
    · subst e; exact hr.live j _ hid
    · simp only [AHeap.set, if_neg e] at hg; exact hr.live j y hg
  inj := fun i j y z b s r hi hj hmi hmj => by
    by_cases ei : i = id <;> by_cases ej : j = id
    · rw [ei, ej]
    · subst ei
      simp only [upd, if_true] at hmi
      simp only [upd, if_neg ej] at hmj
      simp only [AHeap.set, if_neg ej] at hj
      cases hmi
      have := (hr.obj j z hj).lt hmj
      omega
    · subst ej
      simp only [upd, if_true] at hmj
      simp only [upd, if_neg ei] at hmi
      simp only [AHeap.set, if_neg ei] at hi
      cases hmj
      have := (hr.obj i y hi).lt hmi
      omega
    · simp only [AHeap.set, if_neg ei, if_neg ej] at hi hj
      simp only [upd, if_neg ei, if_neg ej] at hmi hmj
      exact hr.inj i j y z b s r hi hj hmi hmj
  obj := fun j y hg => by
    by_cases e : j = id
    · subst e
      simp only [AHeap.set, if_true] at hg
      cases hg
      intro b s hmb
      simp only [upd, if_true] at hmb
      cases hmb
      exact ⟨cc, T, heap_alloc_new w _⟩
    · simp only [AHeap.set, if_neg e] at hg
      exact (hr.obj j y hg).step (step_mv hr hid hcc hsm _ t) (by simp [upd, e]) fun b s hm => heap_alloc_old w _ ((hr.obj j y hg).lt hm)

/-- A token begins anew, with nothing. -/
theorem step_anew (hr : HR m h w) {id g n g' n' : Nat} (hid : h.get id = some (.tail g n)) (hlt : g < g') : Step m h w (upd m id none) (h.set id (some (.tail g' n'))) w where
  os := rfl
  tape := rfl
  output := rfl
  size := Nat.le_refl _
  kind := fun b cc T fz hb _ => ⟨cc, hb, rfl⟩
  free := fun b hb hfr => ⟨rfl, fun j s y hg hmj => by
    by_cases e : j = id
    · subst e; simp [upd] at hmj
    · simp only [AHeap.set, if_neg e] at hg; simp only [upd, if_neg e] at hmj; exact hfr j s y hg hmj⟩
  cell := fun b k v hc hn => ⟨hc, fun ⟨j, s, ⟨y, hg⟩, hmj, hle⟩ => by
    by_cases e : j = id
    · subst e; simp [upd] at hmj
    · simp only [AHeap.set, if_neg e] at hg; simp only [upd, if_neg e] at hmj; exact hn ⟨j, s, ⟨y, hg⟩, hmj, hle⟩⟩
  used := fun _ hu => hu
  live := fun j x' hu hg => by
    by_cases e : j = id
    · subst e
      simp only [AHeap.set, if_true] at hg
      cases hg
      exact ⟨_, hid, fun hs => absurd hs.1 (by omega), .inl hlt⟩
    · simp only [AHeap.set, if_neg e] at hg
      exact ⟨x', hg, fun _ => by simp [upd, e], Compat.refl _⟩
theorem HR.anew (hr : HR m h w) {id g n g' n' : Nat} (hid : h.get id = some (.tail g n)) (hlt : g < g') : HR (upd m id none) (h.set id (some (.tail g' n'))) w where
  gapl := hr.gapl
  live := fun j y hg => by
    by_cases e : j = id
    · subst e; exact hr.live j _ hid
    · simp only [AHeap.set, if_neg e] at hg; exact hr.live j y hg
  inj := fun i j y z b s r hi hj hmi hmj => by
    by_cases ei : i = id
    · subst ei; simp [upd] at hmi
    · by_cases ej : j = id
      · subst ej; simp [upd] at hmj
      · simp only [AHeap.set, if_neg ei, if_neg ej] at hi hj
        simp only [upd, if_neg ei, if_neg ej] at hmi hmj
        exact hr.inj i j y z b s r hi hj hmi hmj
  obj := fun j y hg => by
    by_cases e : j = id
    · subst e
      simp only [AHeap.set, if_true] at hg
      cases hg
      intro b s hmb
      simp [upd] at hmb
    · simp only [AHeap.set, if_neg e] at hg
      exact (hr.obj j y hg).step (step_anew hr hid hlt) (by simp [upd, e]) fun _ _ _ => rfl
/-- The world w' is w but for block b, whose cells read as they did. -/
structure WMark (w w' : World) (b : Nat) : Prop where
  os : w'.os = w.os
  tape : w'.tape = w.tape
  output : w'.output = w.output
  size : w'.heap.size = w.heap.size
  other : ∀ k, k ≠ b → w'.heap[k]? = w.heap[k]?
  cell : ∀ o, w'.cell? ⟨b, o, none⟩ = w.cell? ⟨b, o, none⟩
/-- A row is given up; its block may be marked. -/
theorem step_mark (hr : HR m h w) {id : Nat} {x : AObj} (hid : h.get id = some x) {b t : Nat} (hm : m id = some (b, t)) {w' : World} (wu : WMark w w' b) : Step m h w m (h.set id none) w' where
  os := wu.os
  tape := wu.tape
  output := wu.output
  size := by rw [wu.size]; exact Nat.le_refl _
  kind := fun k cc T fz hb hf => by
    by_cases e : k = b
    · subst e
      exact absurd (fun j s y hg hmj => by
        by_cases e : j = id
        · simp [AHeap.set, e] at hg
        · simp only [AHeap.set, if_neg e] at hg
          exact e (hr.inj j id y x k s t hg hid hmj hm)) hf
    · exact ⟨cc, by rw [wu.other k e]; exact hb, rfl⟩
  free := fun k hk hfr => by
    have hkb : k ≠ b := fun e => hfr id t _ hid (e ▸ hm)
    refine ⟨wu.other k hkb, fun j s y hg hmj => ?_⟩
    by_cases e : j = id
    · simp [AHeap.set, e] at hg
    · simp only [AHeap.set, if_neg e] at hg; exact hfr j s y hg hmj
  cell := fun k o v hcell hn => by
    refine ⟨?_, fun ⟨j, s, ⟨y, hg⟩, hmj, hle⟩ => ?_⟩
    · by_cases e : k = b
      · subst e; rw [wu.cell]; exact hcell
      · rw [← hcell]; exact World.cell?_of_block (wu.other k e)
    · by_cases e : j = id
      · simp [AHeap.set, e] at hg
      · simp only [AHeap.set, if_neg e] at hg; exact hn ⟨j, s, ⟨y, hg⟩, hmj, hle⟩
  used := fun _ hu => hu
  live := fun j x' _ hg => by
    by_cases e : j = id
    · simp [AHeap.set, e] at hg
    · simp only [AHeap.set, if_neg e] at hg; exact ⟨x', hg, fun _ => rfl, Compat.refl _⟩
theorem HR.mark (hr : HR m h w) {id : Nat} {x : AObj} (hid : h.get id = some x) {b t : Nat} (hm : m id = some (b, t)) {w' : World} (wu : WMark w w' b) : HR m (h.set id none) w' := by
  have sub : ∀ j y, (h.set id none).get j = some y → h.get j = some y ∧ j ≠ id := fun j y hg => by
    by_cases e : j = id
    · simp [AHeap.set, e] at hg
    · exact ⟨by simpa only [AHeap.set, if_neg e] using hg, e⟩
  exact ⟨hr.gapl, fun j y hg => hr.live j y (sub j y hg).1, fun i j y z b s r hi hj => hr.inj i j y z b s r (sub i y hi).1 (sub j z hj).1,
    fun j y hg => (hr.obj j y (sub j y hg).1).step (step_mark hr hid hm wu) rfl fun c s hmj => wu.other c fun ec => (sub j y hg).2 (hr.inj j id y x b s t (sub j y hg).1 hid (ec ▸ hmj) hm)⟩
end
end Go.Abs
