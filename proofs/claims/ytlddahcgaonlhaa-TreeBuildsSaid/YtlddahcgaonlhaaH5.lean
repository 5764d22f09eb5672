/- TreeBuilds. -/
import Derived.Test.YtlddahcgaonlhaaG9
set_option linter.all false
namespace Go.Proofs.Ytlddahcgaonlhaa
open Go Go.Abs

set_option maxHeartbeats 4000000 in
theorem law18_TreeBuilds_ae (md : Bool) (a : List Bs) (hla : a.length ≤ maxLen) (h : AHeap) : AE Try.prog 13 [.bool md, .imm 1 (a.map encR)] h (.bool true) h := by
  refine AE.pureW is_law18_TreeBuilds (by simp) ?_
  unfold c_law18_TreeBuilds
  (refine go ?_)
  refine WL.call rfl (by first | exact True.intro | exact rfl) (by repeat first | exact SubL.nil | refine SubL.cons (SubV.refl _) ?_ | refine SubL.cons SubV.app ?_ | refine SubL.cons SubV.nil ?_) (law18_long_ae a hla h) ?_
  (refine go ?_)
  (refine WW.ifB rfl (fun hz1 => ?_) (fun hz1 => ?_))
  · (refine go ?_)
    refine WW.ret (PureQ.finD ?_)
    exact fz_b rfl
  obtain ⟨ha, hb⟩ := longF_no (by simpa using hz1)
  (refine go ?_)
  refine WL.callA rfl (by first | exact True.intro | exact rfl) (by repeat first | exact SubL.nil | refine SubL.cons (SubV.refl _) ?_ | refine SubL.cons SubV.app ?_ | refine SubL.cons SubV.nil ?_) (law18_of_ac md _) ?_
  rintro _ h1 ⟨l, s, rfl, oL, sL, nL, kL, _, _, _⟩
  replace kL := kL h (Keeps.refl _)
  (refine go ?_)
  cases hG : isG a.length with
  | true =>
    refine WL.call rfl (by first | exact True.intro | exact rfl) (by repeat first | exact SubL.nil | refine SubL.cons (SubV.refl _) ?_ | refine SubL.cons SubV.app ?_ | refine SubL.cons SubV.nil ?_) (tree_Build_ae oL (by simp) a hG (fun x hx => by have := hb x hx; omega)) ?_
    obtain ⟨l1, s1⟩ := buildF_len md a []
    refine WL.named (fun h2 => Keeps h h2) (kL.set sL _) ?_
    rintro h2 k2
    (refine go ?_)
    refine WL.callA rfl (by first | exact True.intro | exact rfl) (by repeat first | exact SubL.nil | refine SubL.cons (SubV.refl _) ?_ | refine SubL.cons SubV.app ?_ | refine SubL.cons SubV.nil ?_) (ref8_NewG_ac md _) ?_
    rintro _ h3 ⟨l3, o3, t1, t2, rfl, oR, oo, ot, nR, kR, _⟩
    replace kR := kR h k2
    have n2 := k2.1
    (refine go ?_)
    refine WL.call rfl (by first | exact True.intro | exact rfl) (by repeat first | exact SubL.nil | refine SubL.cons (SubV.refl _) ?_ | refine SubL.cons SubV.app ?_ | refine SubL.cons SubV.nil ?_) (ref18_Build_ae oR (by simp) a hG (fun x hx => by have := hb x hx; omega)) ?_
    refine WL.named (fun h4 => Keeps h h4) ((kR.set (by omega) _).set (by omega) _) ?_
    rintro h4 k4
    generalize (buildF md a []).1 = N at *
    (refine go ?_)
    refine WL.call rfl (by first | exact True.intro | exact rfl) (by repeat first | exact SubL.nil | refine SubL.cons (SubV.refl _) ?_ | refine SubL.cons SubV.app ?_ | refine SubL.cons SubV.nil ?_) (tree_Top_ae N (by omega) _) ?_
    have hT : isT N.length = true := by rw [l1]; exact isT_twice hG
    rw [hT]
    have k5 := k4.1
    (repeat first | refine WL.go ?_ | refine WW.seq ?_ | refine WW.reg ?_ | refine WL.nil ?_ | refine WW.skip ?_ | refine WW.block ?_ | refine WW.exit ?_ | refine WW.condT rfl ?_ | refine WW.condF rfl ?_ | refine WL.gox ?_ | refine thenN ?_ | refine blkN ?_)
    refine WW.dregX [] [] [] gN (by decide +kernel) ?_
    (refine go ?_)
    refine DW.callS rfl (by first | exact True.intro | exact rfl) (by repeat first | exact SubL.nil | refine SubL.cons (SubV.refl _) ?_ | refine SubL.cons SubV.app ?_ | refine SubL.cons SubV.nil ?_) rfl (ref18_Same_ae N N (by omega) (by omega) _) ?_
    rw [show (N == N) = true by simp]
    have h8 : 8 ≤ N.length := by simp [isG] at hG; omega
    have htop : topP N = N[1] := by rw [topP, hT, if_pos rfl, List.getD_eq_getElem?_getD, List.getElem?_eq_getElem (by omega)]; rfl
    (refine go ?_)
    refine DW.go (hs := Stp.loadi rfl (map_at (List.getElem?_eq_getElem (show 1 < N.length by omega))) (getC_all rfl) (by first | exact True.intro | exact rfl)) ?_
    (refine go ?_)
    (refine DW.spB rfl (fun hz2 => ?_) (fun hz2 => ?_))
    rotate_left
    · exfalso; simp [htop] at hz2
    (refine go ?_)
    refine DW.callS rfl (by first | exact True.intro | exact rfl) (by repeat first | exact SubL.nil | refine SubL.cons (SubV.refl _) ?_ | refine SubL.cons SubV.app ?_ | refine SubL.cons SubV.nil ?_) rfl (law18_known_ae _) ?_
    (refine go ?_)
    refine WW.ret (PureQ.finD ?_)
    exact fz_b rfl
  | false =>
    refine WL.call rfl (by first | exact True.intro | exact rfl) (by repeat first | exact SubL.nil | refine SubL.cons (SubV.refl _) ?_ | refine SubL.cons SubV.app ?_ | refine SubL.cons SubV.nil ?_) (tree_Build_no a (by omega) hG _) ?_
    (refine go ?_)
    refine WL.callA rfl (by first | exact True.intro | exact rfl) (by repeat first | exact SubL.nil | refine SubL.cons (SubV.refl _) ?_ | refine SubL.cons SubV.app ?_ | refine SubL.cons SubV.nil ?_) (ref8_NewG_ac md _) ?_
    rintro _ h3 ⟨l3, o3, t1, t2, rfl, oR, oo, ot, nR, kR, _⟩
    replace kR := kR h kL
    (refine go ?_)
    refine WL.call rfl (by first | exact True.intro | exact rfl) (by repeat first | exact SubL.nil | refine SubL.cons (SubV.refl _) ?_ | refine SubL.cons SubV.app ?_ | refine SubL.cons SubV.nil ?_) (ref18_Build_no a (by omega) hG _) ?_
    (refine go ?_)
    refine WL.call rfl (by first | exact True.intro | exact rfl) (by repeat first | exact SubL.nil | refine SubL.cons (SubV.refl _) ?_ | refine SubL.cons SubV.app ?_ | refine SubL.cons SubV.nil ?_) (tree_Top_ae [] (by simp) _) ?_
    rw [show isT ([] : List Pr).length = false from rfl]
    have k5 := kR.1
    (repeat first | refine WL.go ?_ | refine WW.seq ?_ | refine WW.reg ?_ | refine WL.nil ?_ | refine WW.skip ?_ | refine WW.block ?_ | refine WW.exit ?_ | refine WW.condT rfl ?_ | refine WW.condF rfl ?_ | refine WL.gox ?_ | refine thenN ?_ | refine blkN ?_)
    refine WW.dregX [] [] [] gN (by decide +kernel) ?_
    (refine go ?_)
    refine DW.callS rfl (by first | exact True.intro | exact rfl) (by repeat first | exact SubL.nil | refine SubL.cons (SubV.refl _) ?_ | refine SubL.cons SubV.app ?_ | refine SubL.cons SubV.nil ?_) rfl (ref18_Same_ae [] [] (by simp) (by simp) _) ?_
    rw [show (([] : List Pr) == []) = true by simp]
    (refine go ?_)
    refine DW.callS rfl (by first | exact True.intro | exact rfl) (by repeat first | exact SubL.nil | refine SubL.cons (SubV.refl _) ?_ | refine SubL.cons SubV.app ?_ | refine SubL.cons SubV.nil ?_) rfl (law18_known_ae _) ?_
    (refine go ?_)
    refine WW.ret (PureQ.finD ?_)
    exact fz_b rfl
theorem top_TreeBuilds (c0 : List AV) (t0 : TypL [.b] c0) (c1 : List AV) (t1 : TypL [.sl [.sl [.i .u8]]] c1) :
    AE Try.prog 13 [c0.headD .nilp, c1.headD .nilp] noHeap (.bool true) noHeap := by
  obtain ⟨v, rfl⟩ := bool_of8 t0
  obtain ⟨a, rfl, ha⟩ := rows_ofL t1
  exact law18_TreeBuilds_ae v a ha noHeap
end Go.Proofs.Ytlddahcgaonlhaa
