/- The ideal sealer: what it remembers; New, Seal, told. -/
import Derived.Test.YtlddahcgaonlhaaF6
import Derived.Test.YtlddahcgaonlhaaAC
set_option linter.all false
namespace Go.Proofs.Ytlddahcgaonlhaa
open Go Go.Abs

theorem clo_encI {u : Nat → Prop} (x : Iss) : ∀ v ∈ encI x, Clo u v := by
  intro v hv
  simp only [encI, List.mem_cons, List.not_mem_nil, or_false] at hv
  rcases hv with rfl | rfl | rfl | rfl | rfl | rfl | rfl | rfl | rfl | rfl <;> first | exact .int _ _ | exact clo_imm (flatB _)
theorem clo_encS {u : Nat → Prop} (b : Bs) (t : Pr) : ∀ v ∈ encS b t, Clo u v := by
  intro v hv
  simp only [encS, List.mem_cons, List.not_mem_nil, or_false] at hv
  rcases hv with rfl | rfl | rfl <;> first | exact .int _ _ | exact clo_imm (flatB _)
/-- What was summed. -/
def encM (S : List Bs) : List (AV × AV) := S.zipIdx.map fun p => (.str p.1, .int .u64 (p.2 + 1 : Nat))
structure OrAt (h : AHeap) (o t s g : Nat) (L : List Iss) (S : List Bs) : Prop where
  obj : h.get o = some (.mem 2 [[.app t g 10 (L.map encI), .map s]])
  tok : h.get t = some (.tail g L.length)
  sums : h.get s = some (.map (encM S))

theorem oracle_told_ae (x : Iss) (hx : x.head.length ≤ 1000000 ∧ x.data.length ≤ 1000000 ∧ x.out.length ≤ 1000000) (h : AHeap) : AE Try.prog 81 [.agg (encI x)] h (.agg (encI x)) h := by
  refine AE.pureW is_oracle_told (by simp) ?_
  unfold c_oracle_told
  (refine go ?_)
  refine DW.callS rfl (by first | exact True.intro | exact rfl) (by repeat first | exact SubL.nil | refine SubL.cons (SubV.refl _) ?_ | refine SubL.cons SubV.app ?_ | refine SubL.cons SubV.nil ?_) rfl (bytes_Clone_ae x.head hx.1 _) ?_
  (refine go ?_)
  refine DW.callS rfl (by first | exact True.intro | exact rfl) (by repeat first | exact SubL.nil | refine SubL.cons (SubV.refl _) ?_ | refine SubL.cons SubV.app ?_ | refine SubL.cons SubV.nil ?_) rfl (bytes_Clone_ae x.data hx.2.1 _) ?_
  (refine go ?_)
  refine DW.callS rfl (by first | exact True.intro | exact rfl) (by repeat first | exact SubL.nil | refine SubL.cons (SubV.refl _) ?_ | refine SubL.cons SubV.app ?_ | refine SubL.cons SubV.nil ?_) rfl (bytes_Clone_ae x.out hx.2.2 _) ?_
  (refine go ?_)
  refine WW.ret (PureQ.finD ?_)
  exact .clo _ (.agg _ (clo_encI x))

/-- What a sealed row is: the number of the sealing, over and over. -/
def sealB (N : Int) (n : Nat) : Bs := rep (putB N 8) n
theorem rep_take (l : Bs) {n m : Nat} (hn : n ≤ m) : (rep l m).take n = rep l n := by
  simp [rep, ← List.map_take, List.take_range, Nat.min_eq_left hn]
def ones : Int := 18446744073709551615
theorem rep_len (l : Bs) (n : Nat) : (rep l n).length = n := by simp [rep]
/-- What is remembered of a sealing. -/
def newI (N : Nat) (k : Pr) (n : Nn) (head data : Bs) : Iss := ⟨k, n, head, data, sealB (N : Int) data.length, (ones, (N : Int))⟩
theorem putB_len (v : Int) : (putB v 8).length = 8 := by simp [putB]

set_option maxHeartbeats 4000000 in
theorem oracle_Seal_ae {h : AHeap} {o t s g : Nat} {L : List Iss} {S : List Bs} (hO : OrAt h o t s g L S) (hL : L.length ≤ 1000000) (k : Pr) (n : Nn) (head data : Bs) (hh : head.length ≤ 4000) (hd : data.length ≤ 4000) :
    AE Try.prog 53 [.ptr o 0 0, .agg (encP k), .agg (encN n), .imm 1 (head.map encB), .imm 1 (data.map encB)] h
      (.tup [.agg (encS (newI (L.length + 1) k n head data).out (newI (L.length + 1) k n head data).tag), .bool true])
      ((h.set t (some (.tail g (L.length + 1)))).set o (some (.mem 2 [[.app t g 10 ((L ++ [newI (L.length + 1) k n head data]).map encI), .map s]]))) := by
  obtain ⟨q1, q2, q3⟩ := hO
  refine AE.wf fun hwf => ?_
  have ho := hwf _ _ q1
  have ht := hwf _ _ q2
  have hne : o ≠ t := fun e => by subst e; rw [q1] at q2; cases q2
  refine AE.effW is_oracle_Oracle_Seal (by simp) ?_ ?_
  · refine Ext.set (Ext.set (x := .tail _ _) Ext.refl (Nm.old q2) trivial) (Nm.old q1) ?_
    intro x hx v hv
    simp only [List.mem_singleton] at hx
    subst hx
    simp only [List.mem_cons, List.not_mem_nil, or_false] at hv
    rcases hv with rfl | rfl
    · exact .app _ _ _ _ (Nm.old q2) fun x hx v hv => by
        obtain ⟨i, _, rfl⟩ := List.mem_map.1 hx
        exact clo_encI i v hv
    · exact .map _ (Nm.old q3)
  unfold c_oracle_Oracle_Seal
  (refine go ?_)
  (apply WL.orB; exact rfl; exact rfl; exact rfl; exact BP.of; intro hz1)
  · (repeat first | (apply GW.goS; exact Stp.auto) | apply GW.nil | exact rfl)
  (refine go ?_)
  (refine WW.ifB rfl (fun hz2 => ?_) (fun hz2 => ?_))
  · simp at hz2; omega
  (refine go ?_)
  refine WL.call rfl (by first | exact True.intro | exact rfl) (by repeat first | exact SubL.nil | refine SubL.cons (SubV.refl _) ?_ | refine SubL.cons SubV.app ?_ | refine SubL.cons SubV.nil ?_) (wire_Put_ae (L.length + 1 : Nat) 8 _ (by decide)) ?_
  (refine go ?_)
  refine WL.call rfl (by first | exact True.intro | exact rfl) (by repeat first | exact SubL.nil | refine SubL.cons (SubV.refl _) ?_ | refine SubL.cons SubV.app ?_ | refine SubL.cons SubV.nil ?_) (bytes_Repeat_ae (putB (L.length + 1 : Nat) 8) (data.length / 8 + 1) (by rw [putB_len]; decide) (by omega) (by rw [putB_len]; omega) _) ?_
  rw [putB_len]
  (refine go ?_)
  refine WL.auto (Stp.slcI (j := data.length) rfl (by first | exact bnd_none | exact bnd_some rfl rfl | exact bnd_some rfl (Int.toNat_of_nonneg (by omega)).symm) (by first | exact bnd_none | exact bnd_some rfl rfl | exact bnd_some rfl (Int.toNat_of_nonneg (by omega)).symm) (Nat.zero_le _) (by simp only [List.length_map, rep_len]; omega) (by first | exact True.intro | exact rfl)) ?_
  rw [List.drop_zero, ← List.map_take, rep_take _ (by omega)]
  (refine go ?_)
  refine WW.dregX [11, 12] [0, 1, 3, 5] [] gN (by decide +kernel) ?_
  (refine go ?_)
  refine DW.callSF (by repeat first | exact PhiW.refl | refine PhiW.put (by omega) ?_ | refine PhiW.setW (by simp) ?_ | refine PhiW.setN (by omega) ?_) rfl (by first | exact True.intro | exact rfl) (by repeat first | exact SubL.nil | refine SubL.cons (SubV.refl _) ?_ | refine SubL.cons SubV.app ?_ | refine SubL.cons SubV.nil ?_) (fun h2 hp2 => bytes_Clone_ae head (by omega) h2) ?_
  (refine go ?_)
  refine DW.callSF (by repeat first | exact PhiW.refl | refine PhiW.put (by omega) ?_ | refine PhiW.setW (by simp) ?_ | refine PhiW.setN (by omega) ?_) rfl (by first | exact True.intro | exact rfl) (by repeat first | exact SubL.nil | refine SubL.cons (SubV.refl _) ?_ | refine SubL.cons SubV.app ?_ | refine SubL.cons SubV.nil ?_) (fun h2 hp2 => bytes_Clone_ae data (by omega) h2) ?_
  (refine go ?_)
  refine WL.call rfl (by first | exact True.intro | exact rfl) (by repeat first | exact SubL.nil | refine SubL.cons (SubV.refl _) ?_ | refine SubL.cons SubV.app ?_ | refine SubL.cons SubV.nil ?_) (oracle_told_ae (newI (L.length + 1) k n head data) ⟨by simp only [newI]; omega, by simp only [newI]; omega, by simp only [newI, sealB, rep_len]; omega⟩ _) ?_
  (refine go ?_)
  refine WW.ret (EffQ.finD ?_ ?_)
  · refine ⟨(by repeat first | exact Nat.le_refl _ | refine next_le_put ?_ | refine next_le_set ?_ | assumption), fun id hu => ?_⟩; have hlt : id < AHeap.next h := hu.1; simp only [get_put, get_set]; (repeat' split) <;> first | rfl | omega | (simp [encI, newI, sealB, ones]; done)
  · refine .clo _ (.tup _ fun v hv => ?_)
    simp only [List.mem_cons, List.not_mem_nil, or_false] at hv
    rcases hv with rfl | rfl
    · exact .agg _ (clo_encS _ _)
    · exact .bool _

/-- The heap with a new Oracle: its sums at the first new name, itself at the second, its row at the third. -/
def newO (h : AHeap) : AHeap := (((h.put h.next (.map [])).put (h.next + 1) (.mem 2 [[.nils, .map h.next]])).put (h.next + 2) (.tail 0 0)).set (h.next + 1) (some (.mem 2 [[.app (h.next + 2) 0 10 [], .map h.next]]))
theorem newO_at (h : AHeap) : OrAt (newO h) (h.next + 1) (h.next + 2) h.next 0 [] [] :=
  ⟨get_set_same, get_set_neE (by omega) get_put_same, get_set_neE (by omega) (get_put_neE (by omega) (get_put_neE (by omega) get_put_same))⟩
theorem newO_next (h : AHeap) : (newO h).next = h.next + 3 := next_setE (next_putE (next_putE (next_putE rfl)))
theorem newO_get (h : AHeap) {id : Nat} (hid : id < h.next) : (newO h).get id = h.get id := by
  simp only [newO, get_put, get_set]
  rw [if_neg (by omega), if_neg (by omega), if_neg (by omega), if_neg (by omega)]
theorem oracle_New_ae (h : AHeap) : AE Try.prog 52 [] h (.ptr (h.next + 1) 0 0) (newO h) := by
  refine AC.introW is_oracle_New (by simp) ?_
  unfold c_oracle_New
  (refine go ?_)
  refine WW.cvt (Cvt.adoptM 10 (i := 0) (j := 0) gH rfl rfl gN) ?_
  exact WW.ret ⟨.inl rfl, _, (by repeat first | exact resA_nil | (apply resA_t; exact rfl) | (apply resA_c; exact rfl; exact gH; exact (by first | exact getC_at rfl rfl | exact getC_all rfl | exact getC_sub (Nat.le_of_ble_eq_true rfl) (by first | (simp only [putC, AV.cs, encP, encN, encI, encS, encA, List.take_succ_cons, List.take_zero, List.take_nil, List.drop_succ_cons, List.drop_zero, List.drop_nil, List.cons_append, List.nil_append, List.append_nil, List.length_cons, List.length_nil, Nat.zero_add, Nat.add_zero, Nat.reduceAdd]; exact rfl) | exact rfl) | exact getC_sub (by simp) (by first | (simp only [putC, AV.cs, encP, encN, encI, encS, encA, List.take_succ_cons, List.take_zero, List.take_nil, List.drop_succ_cons, List.drop_zero, List.drop_nil, List.cons_append, List.nil_append, List.append_nil, List.length_cons, List.length_nil, Nat.zero_add, Nat.add_zero, Nat.reduceAdd]; exact rfl) | exact rfl)))), rfl, rfl⟩
end Go.Proofs.Ytlddahcgaonlhaa
