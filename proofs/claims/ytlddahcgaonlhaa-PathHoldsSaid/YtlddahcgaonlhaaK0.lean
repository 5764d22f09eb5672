/- The ideal sealer: what its heap is after a call; what laws are handed. -/
import Derived.Test.YtlddahcgaonlhaaF10
import Derived.Test.YtlddahcgaonlhaaAD
import Derived.Test.YtlddahcgaonlhaaAB
set_option linter.all false
namespace Go.Proofs.Ytlddahcgaonlhaa
open Go Go.Abs

theorem seal_at {h : AHeap} {o t s g : Nat} {L : List Iss} {S : List Bs} (hO : OrAt h o t s g L S) (x : Iss) :
    OrAt ((h.set t (some (.tail g (L.length + 1)))).set o (some (.mem 2 [[.app t g 10 ((L ++ [x]).map encI), .map s]]))) o t s g (L ++ [x]) S := by
  obtain ⟨q1, q2, q3⟩ := hO
  have n1 : o ≠ t := fun e => by subst e; rw [q1] at q2; cases q2
  have n2 : o ≠ s := fun e => by subst e; rw [q1] at q3; cases q3
  have n3 : t ≠ s := fun e => by subst e; rw [q2] at q3; cases q3
  refine ⟨get_set_same, ?_, ?_⟩
  · rw [get_set_neE (by omega) get_set_same]; simp
  · exact get_set_neE (by omega) (get_set_neE (by omega) q3)
theorem newO_keeps (h : AHeap) : Keeps h (newO h) := by
  exact ⟨by rw [newO_next]; omega, fun id hu => newO_get h hu.1⟩
theorem orAt_get {h h2 : AHeap} {o t s g : Nat} {L : List Iss} {S : List Bs} (hO : OrAt h o t s g L S) (h1 : h2.get o = h.get o) (h3 : h2.get t = h.get t) (h4 : h2.get s = h.get s) : OrAt h2 o t s g L S :=
  ⟨h1.trans hO.obj, h3.trans hO.tok, h4.trans hO.sums⟩
/-- A sealing's heap, under a name of its own. -/
theorem sealed {h : AHeap} {o t s g : Nat} {L : List Iss} {S : List Bs} (hO : OrAt h o t s g L S) (k : Pr) (n : Nn) (head data : Bs) :
    ∃ h2, (h.set t (some (.tail g (L.length + 1)))).set o (some (.mem 2 [[.app t g 10 ((L ++ [newI (L.length + 1) k n head data]).map encI), .map s]])) = h2 ∧
      OrAt h2 o t s g (L ++ [newI (L.length + 1) k n head data]) S ∧ (∀ nx, h.next = nx → h2.next = nx) ∧ (∀ id, id ≠ o → id ≠ t → h2.get id = h.get id) ∧ (∀ h0 : AHeap, Keeps h0 h → h0.next ≤ o → h0.next ≤ t → Keeps h0 h2) :=
  ⟨_, rfl, seal_at hO _, fun nx hn => gN, fun id h1 h2 => by simp only [get_set]; rw [if_neg h1, if_neg h2], fun h0 hk h1 h2 => (by repeat first | with_reducible exact Keeps.refl _ | with_reducible refine Keeps.put ?_ (by omega) _ | with_reducible refine Keeps.set ?_ (by omega) _ | assumption)⟩
theorem newO_ex (h : AHeap) : ∃ h1, newO h = h1 ∧ OrAt h1 (h.next + 1) (h.next + 2) h.next 0 [] [] ∧ (∀ nx, h.next = nx → h1.next = nx + 3) ∧ (∀ id, id < h.next → h1.get id = h.get id) ∧ ∀ h0 : AHeap, Keeps h0 h → Keeps h0 h1 :=
  ⟨_, rfl, newO_at h, fun nx hn => by rw [newO_next, hn], fun id hi => newO_get h hi, fun h0 hk => ⟨by rw [newO_next]; exact Nat.le_trans hk.1 (by omega), fun id hu => by rw [newO_get h (Nat.lt_of_lt_of_le hu.1 hk.1)]; exact hk.2 id hu⟩⟩
theorem and64k (i : Int) : ∃ c : Nat, c < 65536 ∧ bits .and .i64 i 65535 = (c : Int) := by
  have h1 : (BitVec.ofInt 64 i &&& BitVec.ofInt 64 65535).toNat < 65536 := by
    rw [BitVec.toNat_and]
    have h2 : (BitVec.ofInt 64 (65535 : Int)).toNat = 65535 := by decide
    rw [h2]
    exact Nat.lt_succ_of_le Nat.and_le_right
  refine ⟨(BitVec.ofInt 64 i &&& BitVec.ofInt 64 65535).toNat, h1, ?_⟩
  show IntKind.i64.wrap (((BitVec.ofInt 64 i &&& BitVec.ofInt 64 65535).toNat : Nat) : Int) = _
  rw [IntWalk.i64_in]
  omega
theorem sumS_nil (k : Bs) : sumS [] k = [k] := rfl
theorem sumN_nil (k : Bs) : sumN [] k = 1 := rfl
theorem sum_same (k : Bs) (S : List Bs) : sumN (k :: S) k = 1 ∧ sumS (k :: S) k = k :: S := by simp [sumN, sumS, idxS]
theorem sum_ne {a b : Bs} (h : ¬ a = b) : sumN [a] b = 2 ∧ sumS [a] b = [a, b] := by
  have : ¬ b = a := fun e => h e.symm
  simp [sumN, sumS, idxS, this]
theorem orAt_sum {h : AHeap} {o t s g : Nat} {L : List Iss} {S : List Bs} (hO : OrAt h o t s g L S) (S' : List Bs) : OrAt (h.set s (some (.map (encM S')))) o t s g L S' := by
  obtain ⟨q1, q2, q3⟩ := hO
  have n2 : o ≠ s := fun e => by subst e; rw [q1] at q3; cases q3
  have n3 : t ≠ s := fun e => by subst e; rw [q2] at q3; cases q3
  exact ⟨get_set_neE n2 q1, get_set_neE n3 q2, get_set_same⟩
theorem oracle_New_ae2 {h : AHeap} {nx : Nat} (hn : h.next = nx) : AE Try.prog 52 [] h (.ptr (nx + 1) 0 0) (newO h) := by subst hn; exact oracle_New_ae h
theorem newO_ex2 {h : AHeap} {nx : Nat} (hn : h.next = nx) : ∃ h1, newO h = h1 ∧ OrAt h1 (nx + 1) (nx + 2) nx 0 [] [] ∧ h1.next = nx + 3 ∧ (∀ id, id < nx → h1.get id = h.get id) ∧ ∀ h0 : AHeap, Keeps h0 h → Keeps h0 h1 := by
  subst hn
  obtain ⟨h1, a, b, c, d, e⟩ := newO_ex h
  exact ⟨h1, a, b, c _ rfl, d, e⟩
def Wf64 (n : Int) : Prop := 0 ≤ n ∧ n < 18446744073709551616
def Wf32 (n : Int) : Prop := 0 ≤ n ∧ n < 4294967296
theorem pair_of {cells : List AV} (h : TypL [.i .u64, .i .u64] cells) : ∃ p : Pr, cells = encP p := by
  obtain ⟨v, vs, rfl, h1, h2⟩ := h.cons_inv
  obtain ⟨u, us, rfl, h3, h4⟩ := h2.cons_inv
  obtain rfl := h4.nil_inv
  obtain ⟨x, rfl, _⟩ := h1.int_inv
  obtain ⟨y, rfl, _⟩ := h3.int_inv
  exact ⟨(x, y), rfl⟩
theorem pairs_of {cells : List AV} (h : TypL [.sl [.i .u64, .i .u64]] cells) : ∃ l : List Pr, cells = [.imm 2 (l.map encP)] ∧ l.length ≤ maxLen := by
  obtain ⟨v, vs, rfl, h1, h2⟩ := h.cons_inv
  obtain rfl := h2.nil_inv
  obtain ⟨c, rfl, hl, hc⟩ := h1.sl_inv
  obtain ⟨l, rfl⟩ := map_of (f := encP) (fun cells => pair_of) hc
  exact ⟨l, rfl, by simpa using hl⟩
theorem int_of {k : IntKind} {cells : List AV} (h : TypL [.i k] cells) : ∃ n : Int, cells = [.int k n] ∧ (Lit.int k n).wf = true := by
  obtain ⟨v, vs, rfl, h1, h2⟩ := h.cons_inv
  obtain rfl := h2.nil_inv
  obtain ⟨x, rfl, hw⟩ := h1.int_inv
  exact ⟨x, rfl, hw⟩
theorem byte_of {cells : List AV} (h : TypL [.i .u8] cells) : ∃ b : UInt8, cells = encB b := by
  obtain ⟨n, rfl, hw⟩ := int_of h
  have hn : 0 ≤ n ∧ n < 256 := by
    have := hw
    simp only [Lit.wf, Bool.and_eq_true, decide_eq_true_eq] at this
    have m1 : IntKind.u8.min = 0 := by decide
    have m2 : IntKind.u8.max = 255 := by decide
    omega
  refine ⟨UInt8.ofNat n.toNat, ?_⟩
  simp only [encB, List.cons.injEq, AV.int.injEq, true_and, and_true]
  have : (UInt8.ofNat n.toNat).toNat = n.toNat := by
    rw [UInt8.toNat_ofNat']; omega
  rw [this]; omega
theorem bytes_of {cells : List AV} (h : TypL [.sl [.i .u8]] cells) : ∃ b : Bs, cells = [.imm 1 (b.map encB)] := by
  obtain ⟨v, vs, rfl, h1, h2⟩ := h.cons_inv
  obtain rfl := h2.nil_inv
  obtain ⟨c, rfl, hl, hc⟩ := h1.sl_inv
  obtain ⟨l, rfl⟩ := map_of (f := encB) (fun cells => byte_of) hc
  exact ⟨l, rfl⟩
theorem nonce_of {cells : List AV} (h : TypL [.i .u32, .i .u32, .i .u64] cells) : ∃ n : Nn, cells = encN n := by
  obtain ⟨v, vs, rfl, h1, h2⟩ := h.cons_inv
  obtain ⟨u, us, rfl, h3, h4⟩ := h2.cons_inv
  obtain ⟨t, ts, rfl, h5, h6⟩ := h4.cons_inv
  obtain rfl := h6.nil_inv
  obtain ⟨x, rfl, _⟩ := h1.int_inv
  obtain ⟨y, rfl, _⟩ := h3.int_inv
  obtain ⟨z, rfl, _⟩ := h5.int_inv
  exact ⟨(x, y, z), rfl⟩
theorem wf64 {n : Int} (hw : (Lit.int .u64 n).wf = true) : Wf64 n := by
  simp only [Lit.wf, Bool.and_eq_true, decide_eq_true_eq] at hw
  have m1 : IntKind.u64.min = 0 := by decide
  have m2 : IntKind.u64.max = 18446744073709551615 := by decide
  rw [m1, m2] at hw
  exact ⟨hw.1, by omega⟩
theorem wf32 {n : Int} (hw : (Lit.int .u32 n).wf = true) : Wf32 n := by
  simp only [Lit.wf, Bool.and_eq_true, decide_eq_true_eq] at hw
  have m1 : IntKind.u32.min = 0 := by decide
  have m2 : IntKind.u32.max = 4294967295 := by decide
  rw [m1, m2] at hw
  exact ⟨hw.1, by omega⟩
theorem pair_ofW {cells : List AV} (h : TypL [.i .u64, .i .u64] cells) : ∃ p : Pr, cells = encP p ∧ Wf64 p.1 ∧ Wf64 p.2 := by
  obtain ⟨v, vs, rfl, h1, h2⟩ := h.cons_inv
  obtain ⟨u, us, rfl, h3, h4⟩ := h2.cons_inv
  obtain rfl := h4.nil_inv
  obtain ⟨x, rfl, w1⟩ := h1.int_inv
  obtain ⟨y, rfl, w2⟩ := h3.int_inv
  exact ⟨(x, y), rfl, wf64 w1, wf64 w2⟩
theorem nonce_ofW {cells : List AV} (h : TypL [.i .u32, .i .u32, .i .u64] cells) : ∃ n : Nn, cells = encN n ∧ Wf32 n.1 ∧ Wf32 n.2.1 ∧ Wf64 n.2.2 := by
  obtain ⟨v, vs, rfl, h1, h2⟩ := h.cons_inv
  obtain ⟨u, us, rfl, h3, h4⟩ := h2.cons_inv
  obtain ⟨t, ts, rfl, h5, h6⟩ := h4.cons_inv
  obtain rfl := h6.nil_inv
  obtain ⟨x, rfl, w1⟩ := h1.int_inv
  obtain ⟨y, rfl, w2⟩ := h3.int_inv
  obtain ⟨z, rfl, w3⟩ := h5.int_inv
  exact ⟨(x, y, z), rfl, wf32 w1, wf32 w2, wf64 w3⟩
end Go.Proofs.Ytlddahcgaonlhaa
