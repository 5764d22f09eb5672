/- What the statement's proof needs, part 7. -/
import Derived.Test.YthblcmnhiccnhaaGreatQPlayCrash6
set_option linter.all false
namespace Go.Proofs.YthblcmnhiccnhaaGreat
open Go Go.Abs

def CaS.drops (x : CaS) (i : Nat) : CaS := { x with now := x.now.set i lf0, ag := x.ag.drop i }
def CaS.putA (x : CaS) (f : Nat) (l : Lf) : CaS := { x with now := x.now.set f l, ag := x.ag.touch f }
def CaS.slotD (x : CaS) (lba : Int) : Bool := decide (x.now.findIdx (slotP lba) < x.now.length)
def CaS.puts (x : CaS) (f : Nat) (l : Lf) : CaS := if x.slotD l.lba then (x.putA f l).drops (x.now.findIdx (slotP l.lba)) else x.putA f l
section
variable {md : Bool} {h h' : AHeap} {n : CaN} {x : CaS}
theorem znv {lv : List Lf} (hg : CaG md h n x) (hw : CaW h n x) (hk : Kp (fun id => id = n.nE) h h') (hb : BoxAt h' n.nE (.mem 8 (lv.map encL))) (hl : lv.length = x.now.length) : CaG md h' n { x with now := lv } ∧ CaW h' n { x with now := lv } := by
 have hw' := hw.kp hg hk (fun e => hw.ne e.symm)
 obtain ⟨g1, g2, ⟨v, g3, g4⟩, g5, g6, g8, g7⟩ := hg
 obtain ⟨d1, d2, d3, d4, d5, d6, d7, d8, d9⟩ := g7
 have hne := hw.ne
 have hu : h'.used n.c := hk.us _ g4.u
 have hE : n.nE ≠ n.k ∧ n.nE ≠ n.a ∧ n.nE ≠ n.q := d7.resolve_left hne
 refine ⟨⟨g1.kp hk fun id hi e => g6 n.nE (.inr (.inr (.inr (.inr (.inl rfl))))) (e ▸ hi), g2.kp hk (fun e => hE.1 e.symm), ⟨.ref n.nE 0 lv.length, .inr ⟨rfl, hb⟩, hu, by rw [hl]; exact hw'.g⟩, g5.kp hk (fun e => hE.2.1 e.symm) (fun e => hE.2.2 e.symm) (fun e => d9 e.symm), g6, fun id hi => Nat.lt_of_lt_of_le (g8 id hi) hk.next, ⟨d1, d2, d3, d4, d5, d6, d7, d8, d9⟩⟩, ⟨by rw [show ({ x with now := lv } : CaS).now.length = x.now.length from hl]; exact hw'.g, hne⟩⟩
theorem CaW.age {E : Nat} {s : AgS} (hw : CaW h n x) (hg : CaG md h n x) (hk : Kp (fun id => id = n.a ∨ id = n.q ∨ id = n.sE) h h') : CaW h' { n with sE := E } { x with ag := s } := by
 have hdj := hg.dj
 have hcs : n.c ≠ n.sE := by rcases hdj.2.2.2.2.2.2.2.1 with hh | hh <;> omega
 have hw' := hw.kp hg hk (fun e => e.elim hdj.2.1 fun e => e.elim hdj.2.2.1 hcs)
 exact ⟨hw'.g, hw'.ne⟩
theorem CaG.age' (hg : CaG md h n x) (hk : Kp (fun id => id = n.q ∨ id = n.sE) h h') {E : Nat} {s : AgS} (ha : AgAt h' n.a n.q E s) (hE : E = n.sE ∨ (h.next ≤ E ∧ E < h'.next)) : CaG md h' { n with sE := E } { x with ag := s } := by
 rcases hE with rfl | hE
 ·obtain ⟨g1, g2, ⟨v, g3, g4⟩, g5, g6, g8, g7⟩ := hg
  obtain ⟨d1, d2, d3, d4, d5, d6, d7, d8, d9⟩ := id g7
  have hq : n.c ≠ n.sE ∧ n.k ≠ n.sE := by rcases d8 with hh | hh <;> omega
  have hEq : n.nE ≠ n.q := by rcases d7 with hh | hh <;> omega
  have hw : ∀ id, n.w.nm md id → ¬ (id = n.q ∨ id = n.sE) := fun id hi e => by
   rcases e with rfl | rfl
   ·exact g6 _ (.inr (.inr (.inr (.inl rfl)))) hi
   ·exact g6 _ (.inr (.inr (.inr (.inr (.inr rfl))))) hi
  exact ⟨g1.kp hk hw, g2.kp hk (by omega), ⟨v, g3.kp hk (by omega), g4.kp hk (by omega)⟩, ha, g6, fun id hi => Nat.lt_of_lt_of_le (g8 id hi) hk.next, g7⟩
 ·exact hg.age (hk.mono fun _ _ e => .inr e) ha hE
theorem znw {lv : List Lf} {i : Nat} (hi : i < lv.length) : (lv.map encL)[0 + i]? = some (encL lv[i]) := by
 rw [Nat.zero_add, List.getElem?_map, List.getElem?_eq_getElem hi]; rfl
set_option maxHeartbeats 4000000 in
theorem zhf {k : Nat} (hg : CaG md h n x) (hw : CaW h n x) (hak : AgOk x.ag k) (hk : k ≤ 800000) {i : Nat} (hi : i < x.now.length) (hl : x.now.length ≤ 16) :
  AC Tryz.prog 203 [.ptr n.c 0 0, .int .i64 i] h (fun r h' => r = .tup [] ∧ ∃ E, (E = n.sE ∨ h.next ≤ E) ∧ CaG md h' { n with sE := E } (x.drops i) ∧ CaW h' { n with sE := E } (x.drops i) ∧ Kp n.own h h') := by
 have hrow := hw.row hg
 have hrg := hrow.g
 have hc := hw.g
 have hcl := hg.lt n.c (.inl rfl)
 have hEl := hrow.u.1
 have hce := hw.ne
 refine AC.introW z9e (by simp) ?_
 unfold z4i; dsimp only [qQ, qR, qM, qG]
 (repeat first | refine WW.seq ?_ | refine WW.reg ?_ | refine WL.nil ?_ | refine WW.skip ?_ | refine WW.block ?_ | refine thenN ?_ | refine blkN ?_); iterate 5 (refine WL.go ?_)
 (repeat first | refine WW.seq ?_ | refine WW.reg ?_ | refine WL.nil ?_ | refine WW.skip ?_ | refine WW.block ?_ | refine thenN ?_ | refine blkN ?_); iterate 2 (refine WL.go ?_)
 refine WL.go (hs := by
  apply Stp.storeN
  exact rfl
  exact rfl
  exact hrg
  exact znw hi
  exact rfl
  exact Nat.le_of_ble_eq_true rfl
  exact rfl
  exact (show putC (encL x.now[i]) 0 (encL lf0) = encL lf0 from rfl)
  exact gM) ?_
 refine WL.live fun hl9 => ?_
 have he : (x.now.map encL).set (0 + i) (encL lf0) = (x.now.set i lf0).map encL := by rw [Nat.zero_add]; exact List.map_set.symm
 refine WL.named (fun h2 => Kp (fun id => id = n.nE) h h2 ∧ BoxAt h2 n.nE (.mem 8 ((x.now.set i lf0).map encL))) ⟨?_, ?_⟩ ?_
 ·exact (by repeat first | exact Kp.refl | assumption | with_reducible refine Kp.put ?_ (by omega) _ | with_reducible refine Kp.setN ?_ (by omega) _ | with_reducible refine Kp.keep ?_ _ | with_reducible refine Kp.setW ?_ (by simp; done) _)
 ·rw [← he]
  exact ⟨hl9 _ _ gH, gH⟩
 clear hl9 hc hrg
 rintro h2 ⟨k2, b2⟩
 obtain ⟨g2, w2⟩ := znv hg hw k2 b2 (List.length_set ..)
 have hc := w2.g
 have hx2 := k2.next
 (refine go ?_)
 refine WL.callA rfl gM gSL (zdh g2.ag hak (by omega) hg.dj.2.2.2.2.2.1 i) ?_
 rintro _ h3 ⟨rfl, E, hE, A4, k3⟩
 have g3 := g2.age' k3 A4 hE
 have w3 : CaW h3 { n with sE := E } (x.drops i) := w2.age g2 (k3.mono fun _ _ e => .inr e)
 (refine go ?_)
 refine ⟨.inr rfl, _, gRES, rfl, E, ?_, g3, w3, (k2.mono fun id _ e => .inr (.inr (.inr (.inr (.inl e))))).trans (k3.mono fun id _ e => e.elim (fun e => .inr (.inr (.inr (.inl e)))) (fun e => .inr (.inr (.inr (.inr (.inr e))))))⟩
 rcases hE with hE | hE
 ·exact .inl hE
 ·exact .inr (by omega)
set_option maxHeartbeats 8000000 in
theorem zjt {k : Nat} (hg : CaG md h n x) (hw : CaW h n x) (hak : AgOk x.ag k) (hk : k ≤ 700000) {f : Nat} (hf : f < x.now.length) (hl : x.now.length ≤ 16) (l : Lf) :
  AC Tryz.prog 136 [.ptr n.c 0 0, .int .i64 f, .agg (encL l)] h (fun r h' => r = .tup [] ∧ ∃ E, (E = n.sE ∨ h.next ≤ E) ∧ CaG md h' { n with sE := E } (x.puts f l) ∧ CaW h' { n with sE := E } (x.puts f l) ∧ Kp n.own h h') := by
 have hrow := hw.row hg
 have hrg := hrow.g
 have hc := hw.g
 have hcl := hg.lt n.c (.inl rfl)
 have hEl := hrow.u.1
 have hce := hw.ne
 have kO : ∀ id, id = n.nE → n.own id := fun id e => .inr (.inr (.inr (.inr (.inl e))))
 refine AC.introW zaa (by simp) ?_
 unfold z58; dsimp only [qQ, qR, qM, qG]
 (refine go ?_)
 refine WL.call rfl gM gSL (za0 (hg.new (by repeat first | exact Kp.refl | assumption | with_reducible refine Kp.put ?_ (by omega) _ | with_reducible refine Kp.setN ?_ (by omega) _ | with_reducible refine Kp.keep ?_ _ | with_reducible refine Kp.setW ?_ (by rfl) _)) (by omega) l.lba) ?_
 (repeat first | refine WL.go ?_ | refine WW.seq ?_ | refine WW.reg ?_ | refine WL.nil ?_ | refine WW.skip ?_ | refine WW.block ?_ | refine WW.exit ?_ | refine WW.condT rfl ?_ | refine WW.condF rfl ?_ | refine WL.gox ?_ | refine thenN ?_ | refine blkN ?_)
 refine WW.dregC 7 (by decide +kernel) ?_
 (repeat first | refine PW.go ?_ | refine PW.nil ?_)
 refine RunL.go ?_ (hs := by
  apply Stp.storeN
  exact rfl
  exact rfl
  exact gH
  exact znw hf
  exact rfl
  exact Nat.le_of_ble_eq_true rfl
  exact rfl
  exact (show putC (encL x.now[f]) 0 (encL l) = encL l from rfl)
  exact gM)
 (repeat first | refine RunL.go ?_ | refine RunL.endL ?_ | refine thenN ?_ | refine blkN ?_)
 refine WW.live fun hl9 => ?_
 have he : (x.now.map encL).set (0 + f) (encL l) = (x.now.set f l).map encL := by rw [Nat.zero_add]; exact List.map_set.symm
 refine WW.named (fun h2 => Kp (fun id => id = n.nE) h h2 ∧ BoxAt h2 n.nE (.mem 8 ((x.now.set f l).map encL))) ⟨?_, ?_⟩ ?_
 ·exact (by repeat first | exact Kp.refl | assumption | with_reducible refine Kp.put ?_ (by omega) _ | with_reducible refine Kp.setN ?_ (by omega) _ | with_reducible refine Kp.keep ?_ _ | with_reducible refine Kp.setW ?_ (by simp; done) _)
 ·rw [← he]
  exact ⟨hl9 _ _ gH, gH⟩
 clear hl9 hc hrg
 rintro h2 ⟨k2, b2⟩
 obtain ⟨g2, w2⟩ := znv hg hw k2 b2 (List.length_set ..)
 have hc := w2.g
 have hx2 := k2.next
 (refine go ?_)
 refine WL.callA rfl gM gSL (z6q g2.ag hak (by omega) hg.dj.2.2.2.2.2.1 (x := f) (by omega)) ?_
 rintro _ h3 ⟨rfl, E, hE1, hE2, A4, k3⟩
 have g3 := g2.age k3 A4 ⟨hE1, hE2⟩
 have w3 : CaW h3 { n with sE := E } (x.putA f l) := w2.age g2 k3
 have k23 : Kp n.own h h3 := (k2.mono fun id _ e => kO id e).trans (k3.mono fun id _ e => e.elim (fun e => .inr (.inr (.inl e))) fun e => e.elim (fun e => .inr (.inr (.inr (.inl e)))) fun e => .inr (.inr (.inr (.inr (.inr e)))))
 have hak3 : AgOk (x.putA f l).ag (k + 1) := hak.touch (by omega)
 have hl3 : (x.putA f l).now.length = x.now.length := List.length_set ..
 change CaG md h3 { n with sE := E } (x.putA f l) at g3
 rw [CaS.puts]
 cases hsd : x.slotD l.lba with
 | false =>
  have hix : ixF (slotP l.lba) x.now = -1 := by rw [ixF, if_neg (of_decide_eq_false hsd)]
  rw [hix]
  (refine go ?_)
  exact ⟨.inr rfl, _, gRES, rfl, E, .inr (by omega), g3, w3, k23⟩
 | true =>
  have hlt := of_decide_eq_true hsd
  have hix : ixF (slotP l.lba) x.now = (x.now.findIdx (slotP l.lba) : Int) := by rw [ixF, if_pos hlt]
  rw [hix]
  generalize x.now.findIdx (slotP l.lba) = o at *
  have hc3 := w3.g
  (refine go ?_)
  refine WL.callA rfl gM gSL (zhf g3 w3 hak3 (by omega) (i := o) (by omega) (by omega)) ?_
  rintro _ h4 ⟨rfl, E4, hE4, g4, w4, k4⟩
  (refine go ?_)
  refine ⟨.inr rfl, _, gRES, rfl, E4, ?_, g4, w4, k23.trans2 k4 fun id hi => ?_⟩
  ·rcases hE4 with hE4 | hE4
   ·exact .inr (by rw [hE4]; dsimp only; omega)
   ·exact .inr (by have := k3.next; omega)
  ·rcases hi with hi | hi | hi | hi | hi | hi
   ·exact .inl (.inl hi)
   ·exact .inl (.inr (.inl hi))
   ·exact .inl (.inr (.inr (.inl hi)))
   ·exact .inl (.inr (.inr (.inr (.inl hi))))
   ·exact .inl (.inr (.inr (.inr (.inr (.inl hi)))))
   ·exact .inr (by dsimp only at hi; omega)
end
end Go.Proofs.YthblcmnhiccnhaaGreat


namespace Go.Proofs.YthblcmnhiccnhaaGreat
open Go Go.Abs

def CaS.wrote (x : CaS) (f : Nat) (lba : Int) (d : Bs) : CaS := (x.lay f lba d).puts f (x.layL f lba d true)
theorem zhg {md : Bool} {h : AHeap} {n : CaN} {x : CaS} (hg : CaG md h n x) (hl : x.now.length ≤ 16) (hw2 : x.was.length = x.now.length) {f : Nat} (hf : freeI x = f) : AE Tryz.prog 137 [.ptr n.c 0 0] h (.int .i64 0) h := by
 refine AE.pureW zab (by simp) ?_
 unfold z59; dsimp only [qQ, qR, qM, qG]
 (refine go ?_)
 refine WL.call rfl gM gSL (z9y hg hl hw2) ?_
 rw [hf]
 (refine go ?_)
 refine WW.ret (PureQ.finD ?_)
 exact fz_i rfl
set_option maxHeartbeats 4000000 in
theorem zg3 {h : AHeap} {n : CaN} {x : CaS} {k : Nat} (hg : CaG true h n x) (hw : CaW h n x) (hx : CaOk true x k) (hk : k ≤ 80000) {ka : Nat} (hak : AgOk x.ag ka) (hka : ka ≤ 700000) (hcan : x.s.pw.can = true) (hj : x.j < 100) {f : Nat} (hf : freeI x = f) (hl : f < x.now.length ∧ x.now.length ≤ 16) (hw2 : x.was.length = x.now.length) (lba : Int) (hlba : 0 ≤ lba ∧ lba < 32) (d : Bs) (hd : d.length = 32) :
  AC Tryz.prog 82 [.ptr n.c 0 0, .agg [.int .i64 2, .int .i64 lba, .imm 1 (d.map encB)]] h (CaR true h n (fun e v x' => e = 0 ∧ v = .nils ∧ x' = x.wrote f lba d)) := by
 have hnl : ∀ id, n.w.nm true id → id < h.next := fun id hi => (hg.w.us _ hi).1
 have hnol := hg.lt
 refine AC.introW z9a (by simp) ?_
 unfold z4e; dsimp only [qQ, qR, qM, qG]
 (refine go ?_)
 refine WL.live fun hl9 => ?_
 refine WL.named (fun h2 => CaG true h2 n x ∧ CaW h2 n x ∧ Kp (fun _ => False) h h2 ∧ BoxAt h2 h.next (.mem 3 [[.int .i64 2, .int .i64 lba, .imm 1 (d.map encB)]]) ∧ BoxAt h2 (h.next + 1) (.mem 2 [[.int .i64 0, .nils]]) ∧ h.next + 2 ≤ h2.next) ⟨hg.new (by repeat first | exact Kp.refl | assumption | with_reducible refine Kp.put ?_ (by omega) _ | with_reducible refine Kp.setN ?_ (by omega) _ | with_reducible refine Kp.keep ?_ _ | with_reducible refine Kp.setW ?_ (by rfl) _), hw.kp (W := fun _ => False) hg (by repeat first | exact Kp.refl | assumption | with_reducible refine Kp.put ?_ (by omega) _ | with_reducible refine Kp.setN ?_ (by omega) _ | with_reducible refine Kp.keep ?_ _ | with_reducible refine Kp.setW ?_ (by rfl) _) (fun h => h), (by repeat first | exact Kp.refl | assumption | with_reducible refine Kp.put ?_ (by omega) _ | with_reducible refine Kp.setN ?_ (by omega) _ | with_reducible refine Kp.keep ?_ _ | with_reducible refine Kp.setW ?_ (by rfl) _), ⟨hl9 _ _ gH, gH⟩, ⟨hl9 _ _ gH, gH⟩, (leN gN (by omega))⟩ ?_
 clear hl9
 rintro h2 ⟨g2, w2, k2, b3, b4, hx2⟩
 have r3 := b3.g
 refine WL.call rfl gM gSL (zhg g2 hl.2 hw2 hf) ?_
 (refine go ?_)
 refine WL.callA rfl gM gSL (zm0 g2 hx hk hw2 hj hcan (f := f) hf hl.1 lba hlba d hd true) ?_
 rintro _ h3 ⟨rfl, g3, k3⟩
 have hno3 : ∀ id, h.next ≤ id → ¬ (n.w.own true id ∨ id = n.k) := fun id hi q => q.elim (fun q => by have := hnl _ (.inl (WN.own_all q)); omega) (fun e => by have := hnol n.k (.inr (.inl rfl)); omega)
 have b4 := b4.kp k3 (hno3 _ (by omega))
 have w3 : CaW h3 n (x.lay f lba d) := by
  have q := w2.kp g2 k3 (fun q => q.elim (fun q => g2.nm n.c (.inl rfl) (.inl (WN.own_all q))) (fun e => g2.dj.1 e))
  exact ⟨q.g, q.ne⟩
 have hx3 := k3.next
 clear r3 b3 g2 w2
 (refine go ?_)
 refine WL.named (fun h4 => CaG true h4 n (x.lay f lba d) ∧ CaW h4 n (x.lay f lba d) ∧ Kp (fun _ => False) h3 h4 ∧ BoxAt h4 (h.next + 1) (.mem 2 [[.int .i64 0, .nils]])) ⟨g3.new (by repeat first | exact Kp.refl | assumption | with_reducible refine Kp.put ?_ (by omega) _ | with_reducible refine Kp.setN ?_ (by omega) _ | with_reducible refine Kp.keep ?_ _ | with_reducible refine Kp.setW ?_ (by rfl) _), w3.kp (W := fun _ => False) g3 (by repeat first | exact Kp.refl | assumption | with_reducible refine Kp.put ?_ (by omega) _ | with_reducible refine Kp.setN ?_ (by omega) _ | with_reducible refine Kp.keep ?_ _ | with_reducible refine Kp.setW ?_ (by rfl) _) (fun h => h), (by repeat first | exact Kp.refl | assumption | with_reducible refine Kp.put ?_ (by omega) _ | with_reducible refine Kp.setN ?_ (by omega) _ | with_reducible refine Kp.keep ?_ _ | with_reducible refine Kp.setW ?_ (by rfl) _), b4.kp (W := fun _ => False) (by repeat first | exact Kp.refl | assumption | with_reducible refine Kp.put ?_ (by omega) _ | with_reducible refine Kp.setN ?_ (by omega) _ | with_reducible refine Kp.keep ?_ _ | with_reducible refine Kp.setW ?_ (by rfl) _) (fun h => h)⟩ ?_
 clear g3 w3 b4
 rintro h4 ⟨g4, w4, k4, b4⟩
 have hx4 := k4.next
 refine WL.callA rfl gM gSL (zjt g4 w4 hak hka (f := f) hl.1 hl.2 (x.layL f lba d true)) ?_
 rintro _ h5 ⟨rfl, E, hE, g5, w5, k5⟩
 have hno5 : ∀ id, h.next ≤ id → ¬ n.own id := fun id hi q => by have := hnol _ q; omega
 have b5 := b4.kp k5 (hno5 _ (by omega))
 have r5 := b5.g
 have hk5 : Kp (fun id => n.w.own true id ∨ n.own id) h2 h5 := (k3.mono fun id _ q => q.elim .inl fun e => .inr (.inr (.inl e))).trans ((k4.mono fun _ _ h => h.elim).trans (k5.mono fun _ _ q => .inr q))
 have hr : CaR true h2 n (fun e v x' => e = 0 ∧ v = .nils ∧ x' = x.wrote f lba d) (.agg [.int .i64 0, .nils]) h5 := by
  refine ⟨{ n with sE := E }, _, 0, .nils, rfl, .inl rfl, ⟨rfl, rfl, rfl⟩, g5, ⟨fun id hi => ?_, fun id hi => .inl hi, rfl, rfl⟩, hk5⟩
  rcases hi with rfl | rfl | rfl | rfl | rfl | rfl
  ·exact .inl (.inl rfl)
  ·exact .inl (.inr (.inl rfl))
  ·exact .inl (.inr (.inr (.inl rfl)))
  ·exact .inl (.inr (.inr (.inr (.inl rfl))))
  ·exact .inl (.inr (.inr (.inr (.inr (.inl rfl)))))
  ·rcases hE with hE | hE
   ·exact .inl (by rw [hE]; exact .inr (.inr (.inr (.inr (.inr rfl)))))
   ·exact .inr (by first | omega | (dsimp only; omega))
 have hR := fun Y => CaR.cell (T := h.next + 1) hg k2 (by omega) (by omega) hr Y
 clear g4 w4 g5 w5 b4 hr
 (refine go ?_)
 exact WW.ret ⟨.inl rfl, [.agg [.int .i64 0, .nils]], gRES, hR _⟩
theorem zg4 {h : AHeap} {n : CaN} {x : CaS} {k : Nat} {b w : Nat} {sv : AV} (hg : CaG true h n x) (hw : CaW h n x) (hbx : BoxAt h b (boxO w (.ptr n.c 0 0) sv)) (hx : CaOk true x k) (hk : k ≤ 80000) (hgo : x.s.pw.gone = false) (hb : x.bad = false) {ka : Nat} (hak : AgOk x.ag ka) (hka : ka ≤ 700000) (hcan : x.s.pw.can = true) (hj : x.j < 100) {f : Nat} (hf : freeI x = f) (hl : f < x.now.length ∧ x.now.length ≤ 16) (hw2 : x.was.length = x.now.length) (lba : Int) (hlba : 0 ≤ lba ∧ lba < 32) (d : Bs) (hd : d.length = 32) :
  AC Tryz.prog 16 [.ptr b 0 0, .agg [.int .i64 1, .int .i64 2, .int .i64 lba, .imm 1 (d.map encB), .int .i64 0, .int .i64 0, .nils, .nils]] h (CaR true h n (fun e v x' => e = 0 ∧ v = .nils ∧ x' = x.wrote f lba d)) :=
 z5f hg hbx 2 lba (.imm 1 (d.map encB)) (.inr ⟨_, rfl⟩) fun h2 k2 g2 => z7n g2 hgo hb 2 lba (.imm 1 (d.map encB)) (.inr ⟨_, rfl⟩) (by omega) (fun h3 => zly lba _ (by simpa using hd) (by simp; omega) h3) fun h3 k3 g3 => zg3 g3 (hw.kp (W := fun _ => False) hg (k2.trans k3) (fun h => h)) hx hk hak hka hcan hj hf hl hw2 lba hlba d hd
end Go.Proofs.YthblcmnhiccnhaaGreat


namespace Go.Proofs.YthblcmnhiccnhaaGreat
open Go Go.Abs

theorem zm5 {x : CaS} {f : Nat} {lba : Int} {d : Bs} : (x.layI f lba d).out.length = d.length := by simp only [CaS.layI, newI, sealB, z7z]
theorem WSt.lay {x : CaS} {k f : Nat} {lba : Int} {d : Bs} (hs : WSt true x.s k) (hf : (f : Int) < x.s.n) (hd : d.length = 32) : WSt true (x.layW f lba d) (k + 1) := by
 have hg := z2 hs.fit.g
 have hll := hs.fit.ll
 have hdat : ∀ y ∈ (x.layW f lba d).L, y.data.length ≤ 4000 := fun y hy => by
  rcases List.mem_append.1 hy with hy | hy
  ·exact hs.dat y hy
  ·obtain rfl := List.mem_singleton.1 hy
   show d.length ≤ 4000
   omega
 refine ⟨⟨hs.fit.g, hs.fit.pw.spend, hs.fit.sd.write (o := ((f : Int) * 32, (x.layI f lba d).out)) ⟨by dsimp only; omega, ?_⟩ true, Nat.le_succ_of_le hs.fit.ss, ?_⟩, hs.cur, fun e => (hs.seq e).put _ _ _ _, hdat, hs.ct.mono (by omega)⟩
 ·rw [zi hs.fit.g, zm5, hd]; dsimp only; omega
 ·show (x.s.L ++ [x.layI f lba d]).length ≤ k + 1
  rw [List.length_append]; simp; omega
theorem zeg {l : Lf} : ∀ (lv : List Lf) (i j : Nat), lvOk lv j = true → z1b l (j + i : Nat) = true → lvOk (lv.set i l) j = true
 | [], _, _, h, _ => h
 | y :: r, 0, j, h, hl => by
  simp only [lvOk, Bool.and_eq_true] at h
  simp only [List.set_cons_zero, lvOk, Bool.and_eq_true]
  exact ⟨hl, h.2⟩
 | y :: r, i + 1, j, h, hl => by
  simp only [lvOk, Bool.and_eq_true] at h
  simp only [List.set_cons_succ, lvOk, Bool.and_eq_true]
  exact ⟨h.1, zeg r i (j + 1) h.2 (by rw [show j + 1 + i = j + (i + 1) by omega]; exact hl)⟩
theorem ztv (i : Nat) (hi : i < 16) : z1b lf0 i = true := by
 rw [z1b, if_neg (by omega), if_pos (show lf0.k = 0 from rfl)]; decide
theorem zs6 {x : CaS} {f : Nat} {l : Lf} : (x.puts f l).now.length = x.now.length := by
 rw [CaS.puts]
 split
 ·show ((x.now.set f l).set _ lf0).length = _
  rw [List.length_set, List.length_set]
 ·exact List.length_set ..
theorem zqr {x : CaS} {f : Nat} {l : Lf} : (x.puts f l).s = x.s ∧ (x.puts f l).boot = x.boot ∧ (x.puts f l).j = x.j ∧ (x.puts f l).was = x.was ∧ (x.puts f l).bad = x.bad := by
 rw [CaS.puts]; split <;> exact ⟨rfl, rfl, rfl, rfl, rfl⟩
theorem CaOk.puts {x : CaS} {k f : Nat} {l : Lf} (hx : CaOk true x k) (hf : f < x.now.length) (hl : l.Wf) (hi : z1b l f = true) : CaOk true (x.puts f l) k := by
 have hg := z2 hx.st.fit.g
 have hll := hx.l
 obtain ⟨e1, e2, e3, e4, e5⟩ := zqr (x := x) (f := f) (l := l)
 have hA : ∀ y ∈ x.now.set f l, y.Wf := fun y hy => by
  rcases List.mem_or_eq_of_mem_set hy with hy | rfl
  ·exact hx.w y hy
  ·exact hl
 have hB : lvOk (x.now.set f l) 0 = true := zeg x.now f 0 hx.ok (by rw [Nat.zero_add]; exact hi)
 refine ⟨by rw [e1]; exact hx.st, by rw [e2]; exact hx.b, by rw [e3]; exact hx.j, by rw [zs6, e1]; exact hll, ?_, ?_⟩
 ·rw [CaS.puts]
  split
  ·intro y hy
   rcases List.mem_or_eq_of_mem_set hy with hy | rfl
   ·exact hA y hy
   ·exact wf0 _ (List.mem_replicate.2 ⟨by decide, rfl⟩)
  ·exact hA
 ·rw [CaS.puts]
  split
  ·rename_i hs
   have := of_decide_eq_true hs
   exact zeg _ _ 0 hB (by rw [Nat.zero_add]; exact ztv _ (by omega))
  ·exact hB
theorem CaOk.lay {x : CaS} {k f : Nat} {lba : Int} {d : Bs} (hx : CaOk true x k) (hj : x.j < 100) (hf : f < x.now.length) (hd : d.length = 32) : CaOk true (x.lay f lba d) (k + 1) := by
 have hl := hx.l
 exact ⟨hx.st.lay (by omega) hd, hx.b, by show x.j + 1 ≤ 100; omega, hl, hx.w, hx.ok⟩
theorem ztw {x : CaS} {k f : Nat} {lba : Int} {d : Bs} {dirty : Bool} (hx : CaOk true x k) (hk : k ≤ 80000) (hj : x.j < 100) (hc0 : 0 < x.s.ks.cur) (hf : f < x.now.length) (hlba : 0 ≤ lba ∧ lba < 32) : (x.layL f lba d dirty).Wf ∧ z1b (x.layL f lba d dirty) f = true := by
 have hg := z2 hx.st.fit.g
 have hl := hx.l
 have hb := hx.b
 have hcur := hx.st.cur.2
 have hll := hx.st.fit.ll
 refine ⟨⟨by show (-9223372036854775808 : Int) ≤ 1 ∧ (1 : Int) ≤ _; omega, by show -9223372036854775808 ≤ lba ∧ lba ≤ _; omega, hcur, by show (0 : Int) ≤ ((f : Nat) : Int) ∧ ((f : Nat) : Int) < _; omega, ?_, by show 0 ≤ ones ∧ ones < _; decide, ?_⟩, ?_⟩
 ·show 0 ≤ x.boot * 4294967296 + ((x.j + 1 : Nat) : Int) ∧ _ < _; dsimp only [CaS.layL]; omega
 ·show 0 ≤ (((x.s.L.length + 1 : Nat)) : Int) ∧ (((x.s.L.length + 1 : Nat)) : Int) < 18446744073709551616; omega
 ·rw [z1b, if_neg (by omega), if_neg (by show ¬ (1 : Int) = 0; omega), if_neg (by show ¬ (1 : Int) = 2; omega), if_pos (show (x.layL f lba d dirty).k = 1 from rfl)]
  simp only [Bool.and_eq_true, decide_eq_true_eq, lbaOk]
  exact ⟨⟨⟨hlba.1, hlba.2⟩, rfl⟩, hc0⟩
theorem CaOk.wrote {x : CaS} {k f : Nat} {lba : Int} {d : Bs} (hx : CaOk true x k) (hk : k ≤ 80000) (hj : x.j < 100) (hc0 : 0 < x.s.ks.cur) (hf : f < x.now.length) (hlba : 0 ≤ lba ∧ lba < 32) (hd : d.length = 32) : CaOk true (x.wrote f lba d) (k + 1) := by
 obtain ⟨h1, h2⟩ := ztw (d := d) (dirty := true) hx hk hj hc0 hf hlba
 exact (hx.lay (lba := lba) hj hf hd).puts hf h1 h2
end Go.Proofs.YthblcmnhiccnhaaGreat


namespace Go.Proofs.YthblcmnhiccnhaaGreat
open Go Go.Abs

def CaS.used (x : CaS) (i : Nat) : CaS := { x with ag := x.ag.touch i }
structure HasV (x : CaS) (lba : Int) (i : Nat) (l : Lf) (d : Bs) : Prop where
 ix : ixF (slotP lba) x.now = i
 lt : i < x.now.length
 lf : x.now[i]? = some l
 k : l.k = 1
 e : 0 ≤ l.e ∧ l.e < 4294967296
 ep : l.e ∈ x.s.ks.epochs
 lba : l.lba = lba
 op : openO x.s.L (ofK x.s.ks.seed l.e) (l.e, l.sl, l.n) (putB l.lba 2) (sub x.s.sd.snap (32 * i) 32) l.tg = some d
set_option maxHeartbeats 4000000 in
theorem zhh {h : AHeap} {n : CaN} {x : CaS} {k : Nat} (hg : CaG true h n x) (hx : WSt true x.s k) (hk : k ≤ 80000) (hgo : x.s.pw.gone = false) (hl : (x.now.length : Int) = x.s.n) {ka : Nat} (hak : AgOk x.ag ka) (hka : ka ≤ 700000) (lba : Int) (hlba : 0 ≤ lba ∧ lba < 32) {i : Nat} {l : Lf} {d : Bs} (hv : HasV x lba i l d) :
  AC Tryz.prog 81 [.ptr n.c 0 0, .agg [.int .i64 1, .int .i64 lba, .nils]] h (CaR true h n (fun e v x' => e = 0 ∧ v = .imm 1 (d.map encB) ∧ x' = x.used i)) := by
 have hgg := z2 hx.fit.g
 have hnl : ∀ id, n.w.nm true id → id < h.next := fun id hi => (hg.w.us _ hi).1
 have hnol := hg.lt
 have hi := hv.lt
 have hlf : x.now[i] = l := by have := hv.lf; rw [List.getElem?_eq_getElem hi] at this; exact Option.some.inj this
 refine AC.introW za7 (by simp) ?_
 unfold z55; dsimp only [qQ, qR, qM, qG]
 (refine go ?_)
 refine WL.live fun hl9 => ?_
 refine WL.named (fun h2 => CaG true h2 n x ∧ Kp (fun _ => False) h h2 ∧ BoxAt h2 (h.next + 1) (.mem 2 [[.int .i64 0, .nils]]) ∧ h.next + 2 ≤ h2.next) ⟨hg.new (by repeat first | exact Kp.refl | assumption | with_reducible refine Kp.put ?_ (by omega) _ | with_reducible refine Kp.setN ?_ (by omega) _ | with_reducible refine Kp.keep ?_ _ | with_reducible refine Kp.setW ?_ (by rfl) _), (by repeat first | exact Kp.refl | assumption | with_reducible refine Kp.put ?_ (by omega) _ | with_reducible refine Kp.setN ?_ (by omega) _ | with_reducible refine Kp.keep ?_ _ | with_reducible refine Kp.setW ?_ (by rfl) _), ⟨hl9 _ _ gH, gH⟩, (leN gN (by omega))⟩ ?_
 clear hl9
 rintro h2 ⟨g2, k2, b4, hx2⟩
 refine WL.call rfl gM gSL (za0 g2 (by omega) lba) ?_
 rw [hv.ix]
 (refine go ?_)
 refine WL.call rfl gM gSL (zhc g2 hx hk hgo i hi hl hlf hv.k hv.e hv.ep (by rw [hv.lba]; exact hlba) d hv.op) ?_
 obtain ⟨v2, v2r, v2c⟩ := g2.c
 have hc := v2c.g
 (refine go ?_)
 refine WL.callA rfl gM gSL (z6q g2.ag hak (by omega) g2.dj.2.2.2.2.2.1 (x := i) (by omega)) ?_
 rintro _ h3 ⟨rfl, E, hE1, hE2, A4, k3⟩
 have g3 := g2.age k3 A4 ⟨hE1, hE2⟩
 have hkO : ∀ id, id = n.a ∨ id = n.q ∨ id = n.sE → n.own id := fun id e => e.elim (fun e => .inr (.inr (.inl e))) fun e => e.elim (fun e => .inr (.inr (.inr (.inl e)))) fun e => .inr (.inr (.inr (.inr (.inr e))))
 have b5 := (b4.kp k3 (fun q => by have := hnol _ (hkO _ q); omega)).g
 have hr : CaR true h2 n (fun e v x' => e = 0 ∧ v = .imm 1 (d.map encB) ∧ x' = x.used i) (.agg [.int .i64 0, .imm 1 (d.map encB)]) h3 := by
  refine ⟨{ n with sE := E }, _, 0, _, rfl, .inr ⟨_, rfl⟩, ⟨rfl, rfl, rfl⟩, g3, ⟨fun id hi => ?_, fun id hi => .inl hi, rfl, rfl⟩, k3.mono fun id _ e => .inr (hkO id e)⟩
  rcases hi with rfl | rfl | rfl | rfl | rfl | rfl
  ·exact .inl (.inl rfl)
  ·exact .inl (.inr (.inl rfl))
  ·exact .inl (.inr (.inr (.inl rfl)))
  ·exact .inl (.inr (.inr (.inr (.inl rfl))))
  ·exact .inl (.inr (.inr (.inr (.inr (.inl rfl)))))
  ·exact .inr hE1
 have hx3 := k3.next
 have hR := fun Y => CaR.cell (T := h.next + 1) hg k2 (by omega) (by omega) hr Y
 clear hr g2 g3 hc
 (refine go ?_)
 exact WW.ret ⟨.inl rfl, [.agg [.int .i64 0, .imm 1 (d.map encB)]], gRES, hR _⟩
theorem zhi {h : AHeap} {n : CaN} {x : CaS} {k : Nat} {b w : Nat} {sv : AV} (hg : CaG true h n x) (hbx : BoxAt h b (boxO w (.ptr n.c 0 0) sv)) (hx : WSt true x.s k) (hk : k ≤ 80000) (hgo : x.s.pw.gone = false) (hb : x.bad = false) (hl : (x.now.length : Int) = x.s.n) {ka : Nat} (hak : AgOk x.ag ka) (hka : ka ≤ 700000) (lba : Int) (hlba : 0 ≤ lba ∧ lba < 32) {i : Nat} {l : Lf} {d : Bs} (hv : HasV x lba i l d) :
  AC Tryz.prog 16 [.ptr b 0 0, .agg [.int .i64 1, .int .i64 1, .int .i64 lba, .nils, .int .i64 0, .int .i64 0, .nils, .nils]] h (CaR true h n (fun e v x' => e = 0 ∧ v = .imm 1 (d.map encB) ∧ x' = x.used i)) :=
 z5f hg hbx 1 lba .nils (.inl rfl) fun h2 k2 g2 => z7n g2 hgo hb 1 lba .nils (.inl rfl) (by omega) (fun h3 => by
  have := zlx 1 (.inl rfl) lba .nils (.inl rfl) h3
  rwa [show (decide (0 ≤ lba) && decide (lba < 32)) = true by simp; omega] at this) fun h3 k3 g3 => zhh g3 hx hk hgo hl hak hka lba hlba hv
end Go.Proofs.YthblcmnhiccnhaaGreat


namespace Go.Proofs.YthblcmnhiccnhaaGreat
open Go Go.Abs

set_option maxHeartbeats 2000000 in
theorem zg5 {h : AHeap} {b : Nat} {e : Int} {R : AHeap → Prop} (keep : List Bool) (hbl : b < h.next)
  (hac : ∀ h2, Kp (fun _ => False) h h2 → h.next + 2 ≤ h2.next → AC Tryz.prog 55 [.ptr b 0 0, .imm 1 (keep.map encBo)] h2 (fun r h' => r = .int .i64 e ∧ R h' ∧ Kp (fun id => id < h.next) h2 h'))
  (hR : ∀ h3 Y, R h3 → R (h3.set (h.next + 1) (some Y))) :
  AC Tryz.prog 16 [.ptr b 0 0, .agg [.int .i64 3, .int .i64 0, .int .i64 0, .nils, .int .i64 0, .int .i64 0, .nils, .imm 1 (keep.map encBo)]] h (fun r h' => r = .agg [.int .i64 e, .nils] ∧ R h') := by
 refine AC.introW z33 (by simp) ?_
 unfold z2f; dsimp only [qQ, qR, qM, qG]
 (refine go ?_)
 refine WL.live fun hl => ?_
 refine WL.callA rfl gM gSL (hac _ (by repeat first | exact Kp.refl | assumption | with_reducible refine Kp.put ?_ (by omega) _ | with_reducible refine Kp.setN ?_ (by omega) _ | with_reducible refine Kp.keep ?_ _ | with_reducible refine Kp.setW ?_ (by rfl) _) (leN gN (by omega))) ?_
 rintro _ h5 ⟨rfl, hr, k5⟩
 have b5 := (BoxAt.kp ⟨hl (h.next + 1) (.mem 2 [[.int .i64 0, .nils]]) gH, gH⟩ k5 (by omega)).g
 have hx5 : h.next + 1 < h5.next := Nat.lt_of_lt_of_le (ltN gN (by omega)) k5.next
 have hRR := hR h5 (.mem 2 [[.int .i64 e, .nils]]) hr
 clear hl
 (refine go ?_)
 exact WW.ret ⟨.inl rfl, _, gRES, rfl, hRR⟩
theorem zg6 {md : Bool} {h : AHeap} {n : WN} {s : WS} {k : Nat} {b : Nat} {cv sv : AV} (hg : WG md h n s) (hs : WSt md s k) (hk : k ≤ 60000) (hd : s.dk.waits = []) (hbx : BoxAt h b (boxO (n.a + 10) cv sv)) (hnb : ¬ n.nm md b) (keep : List Bool) (hkl : keep.length ≤ 9223372036854775807) (he : (s.crash (keepF keep)).bootS.loadE md = 0) (hep : s.ks.epochs.length < 2) (hll : ((s.crash (keepF keep)).bootS.loadL md).length ≤ 16) :
  AC Tryz.prog 16 [.ptr b 0 0, .agg [.int .i64 3, .int .i64 0, .int .i64 0, .nils, .int .i64 0, .int .i64 0, .nils, .imm 1 (keep.map encBo)]] h
   (fun r h' => r = .agg [.int .i64 0, .nils] ∧ ∃ N : CaN, N.w = n ∧ CaG md h' N (z8l md (s.crash (keepF keep))) ∧ (∀ id, N.own id → h.next ≤ id) ∧ BoxAt h' b (boxO (n.a + 10) (.ptr N.c 0 0) sv) ∧ Kp (fun id => n.own md id ∨ id = b) h h') := by
 have hnl : ∀ id, n.nm md id → id < h.next := fun id hi => (hg.us _ hi).1
 have hbl := hbx.u.1
 refine (zg5 (e := 0) (keep := keep) (R := fun h' => ∃ N : CaN, N.w = n ∧ CaG md h' N (z8l md (s.crash (keepF keep))) ∧ (∀ id, N.own id → h.next + 2 ≤ id) ∧ BoxAt h' b (boxO (n.a + 10) (.ptr N.c 0 0) sv) ∧ Kp (fun id => n.own md id ∨ id = b) h h') hbl (fun h2 k2 hx2 => ?_) (fun h3 Y hR => ?_)).mono fun r h' hh => ?_
 ·have g2 := hg.new k2
  refine (zlz g2 hs hk hd (hbx.kp k2 (fun h => h)) hnb (P2 := fun cv' h5 h3 => ∃ N : CaN, cv' = .ptr N.c 0 0 ∧ N.w = n ∧ CaG md h3 N (z8l md (s.crash (keepF keep))) ∧ ∀ id, N.own id → h5.next ≤ id) (e := 0) keep hkl (fun cv' _ _ hP => .inr (by obtain ⟨N, rfl, _⟩ := hP; exact ⟨_, rfl⟩)) (fun h3 g3 => ?_)).mono ?_
  ·exact (zhe g3 (hs.crash _) (by omega) (z44 _ _) he hep hll).mono fun r h4 ⟨N, q1, q2, q3, q4, q5⟩ => ⟨_, q1, ⟨N, rfl, q2, q3, q4⟩, q5⟩
  ·rintro r h' ⟨rfl, cv', h3, h4, ⟨N, rfl, rfl, g4, hN⟩, hx, rfl, b4, k4⟩
   have kt := zts (cv' := .ptr N.c 0 0) b4
   have kA : Kp (fun id => N.w.own md id ∨ id = b) h2 (h4.set b (some (boxO (N.w.a + 10) (.ptr N.c 0 0) sv))) := (k4.mono fun _ _ hh => .inl hh).trans (kt.mono fun _ _ e => .inr e)
   refine ⟨rfl, ⟨N, rfl, g4.kp kt (fun id hi e => hnb (e ▸ hi)) (fun id hi e => ?_), fun id hi => ?_, ⟨kt.us _ b4.u, zb⟩, (k2.mono fun _ _ h => h.elim).trans kA⟩, kA.mono fun id _ hh => ?_⟩
   ·have := hN id hi; omega
   ·have := hN id hi; omega
   ·rcases hh with hh | rfl
    ·exact hnl _ (.inl (WN.own_all hh))
    ·exact hbl
 ·obtain ⟨N, rfl, r1, r4, r2, r3⟩ := hR
  have kt : Kp (fun id => id = h.next + 1) h3 (h3.set (h.next + 1) (some Y)) := Kp.cvt rfl rfl fun id hi => z1 hi rfl
  exact ⟨N, rfl, r1.kp kt (fun id hi e => by have := hnl _ hi; omega) (fun id hi e => by have := r4 _ hi; omega), r4, r2.kp kt (by omega), r3.trans2 kt fun id e => .inr (by omega)⟩
 ·obtain ⟨rfl, N, q1, q2, q3, q4, q5⟩ := hh
  exact ⟨rfl, N, q1, q2, fun id hi => by have := q3 id hi; omega, q4, q5⟩
end Go.Proofs.YthblcmnhiccnhaaGreat


namespace Go.Proofs.YthblcmnhiccnhaaGreat
open Go Go.Abs

theorem caOk0 : CaOk true (caNew (ws0 4 1) 4) 1 := ⟨(wst0 true (m := 4) rfl 1).boot, by decide, by decide, rfl, wf0, by decide⟩
section
variable {s : WS} {o : Nat} {u : UInt8}
end
end Go.Proofs.YthblcmnhiccnhaaGreat


namespace Go.Proofs.YthblcmnhiccnhaaGreat
open Go Go.Abs

section
variable {md : Bool} {s : WS} {k : Nat} {boot : Int} {j : Nat} {lv : List Lf}
theorem zqs {o m : Nat} (hs : WSt md s k) (hl : (lv.length : Int) = s.n) (ho : o + m ≤ 32 * s.n.toNat) (hd : (s.doC md boot j lv).1 = 0) : Kept (s.doC md boot j lv).2.1.sd o m (sub s.sd.snap o m) := by
 have hg := z2 hs.fit.g
 revert hd
 refine z1n (P := fun d => d.1 = 0 → Kept d.2.1.sd o m (sub s.sd.snap o m)) (fun _ h => by cases h) (fun _ _ h => by cases h) (fun _ _ _ h => by cases h) (fun _ _ _ _ h => by cases h) (fun _ _ _ _ _ h => by cases h) (fun _ _ _ _ _ _ h => by cases h) (fun c12 c3 hjn c4 c5 c6 _ => ?_)
 rw [Bool.and_eq_true] at c12
 obtain ⟨e1, e2, e3, e4⟩ := z2v md s s.doA lv
 have f1 := hs.area (md := md) s.doA (z32 s) hl
 have f3 := f1.bar.log boot j (s.doR md lv)
 have ha := z32 s
 have hsl := z2u hs.fit
 have hlb := z3n lv
 have hnb := z2c (s.nodes md lv)
 rw [z54] at hnb
 have haa : s.doA = 0 ∨ s.doA = 1 := by omega
 have hsn : sub (s.areaW md s.doA lv).sd.snap o m = sub s.sd.snap o m := by
  rw [z95 md s.doA lv c12.1 c12.2]
  have b1 : (lfAt s.n s.doA 0).toNat + (lvB lv).length ≤ s.sd.snap.length := by unfold lfAt; rcases haa with e | e <;> rw [e] <;> omega
  have b2 : (layO s.sd.snap (lfAt s.n s.doA 0, lvB lv)).length = s.sd.snap.length := z2b _ _ (by dsimp only; omega)
  have b3 : (ndAt s.n s.doA 0).toNat + (z1h (s.nodes md lv)).length ≤ s.sd.snap.length := by unfold ndAt; rcases haa with e | e <;> rw [e] <;> omega
  rw [z3o (by rw [b2]; dsimp only; exact b3) (.inl (by dsimp only; unfold ndAt; rcases haa with e | e <;> rw [e] <;> omega)), z3o (by dsimp only; exact b1) (.inl (by dsimp only; unfold lfAt; rcases haa with e | e <;> rw [e] <;> omega))]
 have kl1 : Kept (s.areaW md s.doA lv).barS.sd o m (sub s.sd.snap o m) := by
  have := ze8 (s.areaW md s.doA lv).sd o m
  rw [hsn] at this
  show Kept ((s.areaW md s.doA lv).sd.barrier (s.areaW md s.doA lv).pw.can) _ _ _
  rw [c3]; exact this
 have h1 : ((s.areaW md s.doA lv).barS.logR md boot j (s.doR md lv)).1 = recAt s.n (s.ct.value + 1) := by show recAt (s.areaW md s.doA lv).n _ = _; rw [e4]; rfl
 have kl2 := kl1.write ((s.areaW md s.doA lv).barS.logR md boot j (s.doR md lv)) (.inr (by
  rw [h1]; unfold recAt; omega)) (s.areaW md s.doA lv).barS.pw.can
 exact Kept.barrier (x := ((s.areaW md s.doA lv).barS.logW md boot j (s.doR md lv)).sd) kl2 f3.fit.sd _
theorem zuv : ∃ M, (s.doC true boot j lv).2.1.L = s.L ++ M := by
 obtain ⟨_, e2, _, _⟩ := z2v true s s.doA lv
 have h0 : ∃ M, s.L = s.L ++ M := ⟨[], by simp⟩
 have h1 : ∃ M, (sealL true (s.areaW true s.doA lv).barS.L (s.areaW true s.doA lv).barS.key ((s.areaW true s.doA lv).barS.logN boot j) [] (rootB (s.doR true lv))) = s.L ++ M := ⟨_, by
  show (s.areaW true s.doA lv).L ++ _ = _
  rw [e2]⟩
 exact z1n (P := fun d => ∃ M, d.2.1.L = s.L ++ M) (fun _ => by rw [e2]; exact h0) (fun _ _ => by show ∃ M, (s.areaW true s.doA lv).L = _; rw [e2]; exact h0) (fun _ _ _ => by show ∃ M, (s.areaW true s.doA lv).L = _; rw [e2]; exact h0) (fun _ _ _ _ => h1) (fun _ _ _ _ _ => h1) (fun _ _ _ _ _ _ => h1) (fun _ _ _ _ _ _ => h1)
end
structure Rest (s : WS) (k : Nat) (l : Lf) (d : Bs) : Prop where
 st : WSt true s k
 n : s.n = 4
 dk : s.dk.waits = []
 ct : s.ct.value = 1
 ep : s.ks.epochs.length < 2
 g : ∃ top e v b tg, Good true s (l :: List.replicate 3 lf0) 1 top e v b tg
 e : 0 ≤ l.e ∧ l.e < 4294967296
 le : l.e ∈ s.ks.epochs
 k : l.k = 1
 o : ∃ X, Kept s.sd 0 32 X ∧ openO s.L (ofK s.ks.seed l.e) (l.e, l.sl, l.n) (putB l.lba 2) X l.tg = some d
section
variable {s : WS} {k : Nat} {l : Lf} {d : Bs}
theorem Rest.crash (h : Rest s k l d) (hk : k ≤ 70000) (K : Nat → Bool) : (s.crash K).bootS.loadE true = 0 ∧ (s.crash K).bootS.loadL true = l :: List.replicate 3 lf0 ∧ Rest ((s.crash K).bootS.loadS true) (k + 41) l d := by
 obtain ⟨top, e, v, b, tg, G⟩ := h.g
 have h2 := h.st.crash K
 have h3 := h2.boot
 have hfr := z44 s K
 have hct := zca hfr
 have G2 := G.settle h.st.fit K
 have G3 : Good true (s.crash K).bootS (l :: List.replicate 3 lf0) 1 top e v b tg := G2.to rfl rfl (by rw [hct]) G2.op (Pre.refl _) G2.kl G2.kr
 have hv : (s.crash K).bootS.ct.value = 1 := by rw [hct]; exact h.ct
 have hL := (show Good true (s.crash K).bootS (l :: List.replicate 3 lf0) (s.crash K).bootS.ct.value top e v b tg from hv.symm ▸ G3).load h3.fit hfr.spend.g
 obtain ⟨e1, e2, e3, e4, e5, e6⟩ := z98 true (s.crash K).bootS
 have hS : Pre (s.crash K).bootS.S ((s.crash K).bootS.loadS true).S := ztt (md := true) (s.crash K).bootS h3.fit
 obtain ⟨X, kX, oX⟩ := h.o
 refine ⟨hL.1, hL.2, h3.load, e2.trans h.n, by rw [zs1]; rfl, by rw [e4]; exact hv, by rw [e5]; exact h.ep, ⟨top, e, v, b, tg, G3.to e2 e5 (by rw [e4]) (by rw [e6]; exact G3.op) hS (by rw [e1]; exact G3.kl) (by rw [e1]; exact G3.kr)⟩, h.e, by rw [e5]; exact h.le, h.k, X, ?_, ?_⟩
 ·rw [e1]; exact kX.settle h.st.fit.sd K
 ·rw [e6, e5]; exact oX
theorem zs7 (lba : Int) (hlba : 0 ≤ lba ∧ lba < 32) (d : Bs) (hd : d.length = 32) : ∃ l, l.lba = lba ∧ ((caNew (ws0 4 1) 4).wrote 0 lba d).comE true = 0 ∧ ((caNew (ws0 4 1) 4).wrote 0 lba d).now = l :: List.replicate 3 lf0 ∧ (((caNew (ws0 4 1) 4).wrote 0 lba d).com true).s.pw.Free ∧ Rest (((caNew (ws0 4 1) 4).wrote 0 lba d).com true).s 53 l d := by
 have hx0 : CaOk true (caNew (ws0 4 1) 4) 1 := caOk0
 have hx := hx0.wrote (f := 0) (lba := lba) (d := d) (by omega) (by decide) (by decide) (by decide) hlba hd
 obtain ⟨l, hl⟩ : ∃ l, (caNew (ws0 4 1) 4).layL 0 lba d true = l := ⟨_, rfl⟩
 have hnow : ((caNew (ws0 4 1) 4).wrote 0 lba d).now = l :: List.replicate 3 lf0 := by rw [← hl]; rfl
 have hs1 : ((caNew (ws0 4 1) 4).wrote 0 lba d).s = (caNew (ws0 4 1) 4).layW 0 lba d := rfl
 have hfree : ((caNew (ws0 4 1) 4).layW 0 lba d).pw.Free := ((ze7 4 1).spend).spend
 have hj1 : ((caNew (ws0 4 1) 4).wrote 0 lba d).j = 1 := rfl
 have hb1 : ((caNew (ws0 4 1) 4).wrote 0 lba d).boot = 1 := rfl
 have h0 : ((caNew (ws0 4 1) 4).wrote 0 lba d).comE true = 0 := by
  rw [CaS.comE, hs1, hj1]; exact zut hfree (by decide)
 have hcs : (((caNew (ws0 4 1) 4).wrote 0 lba d).com true).s = (((caNew (ws0 4 1) 4).layW 0 lba d).doC true 1 1 (l :: List.replicate 3 lf0)).2.1 := by rw [CaS.com, hs1, hj1, hb1, hnow]
 have h0' : (((caNew (ws0 4 1) 4).layW 0 lba d).doC true 1 1 (l :: List.replicate 3 lf0)).1 = 0 := by
  have := h0
  rw [CaS.comE, hs1, hj1, hb1, hnow] at this
  exact this
 have hst : WSt true ((caNew (ws0 4 1) 4).layW 0 lba d) 2 := hx.st
 have hn4 : ((caNew (ws0 4 1) 4).layW 0 lba d).n = 4 := rfl
 have hlen : (((l :: List.replicate 3 lf0).length : Nat) : Int) = ((caNew (ws0 4 1) 4).layW 0 lba d).n := by rw [hn4]; rfl
 have hL1 : ((caNew (ws0 4 1) 4).layW 0 lba d).L = [(caNew (ws0 4 1) 4).layI 0 lba d] := rfl
 have hwf := hx.w
 rw [hnow] at hwf
 have hok := hx.ok
 rw [hnow] at hok
 have G := (zbp hst (by omega) hlen hwf hok (show (1 : Int) = ((caNew (ws0 4 1) 4).layW 0 lba d).ct.boots from rfl) (j := 1) (by decide) h0').2
 have hK := zqs (o := 0) (m := 32) hst hlen (by rw [hn4]; decide) h0'
 have hct := zln (md := true) (s := (caNew (ws0 4 1) 4).layW 0 lba d) (boot := 1) (j := 1) (lv := l :: List.replicate 3 lf0)
 rw [if_pos h0'] at hct
 obtain ⟨q1, q2⟩ := doC_n (md := true) (s := (caNew (ws0 4 1) 4).layW 0 lba d) (boot := 1) (j := 1) (lv := l :: List.replicate 3 lf0)
 obtain ⟨M, hM⟩ := zuv (s := (caNew (ws0 4 1) 4).layW 0 lba d) (boot := 1) (j := 1) (lv := l :: List.replicate 3 lf0)
 have hle : l.e = 1 := by rw [← hl]; rfl
 have hks : ((caNew (ws0 4 1) 4).layW 0 lba d).ks = ⟨1, [1]⟩ := rfl
 refine ⟨l, by rw [← hl]; rfl, h0, hnow, by rw [hcs]; exact zlp hfree, ?_⟩
 rw [hcs]
 refine ⟨(zc9 hst hlen).mono (by decide), q1.trans hn4, by rw [zql]; rfl, by rw [hct]; rfl, by rw [q2, hks]; decide, ⟨_, _, _, _, _, G⟩, by rw [hle]; decide, by rw [hle, q2, hks]; simp, by rw [← hl]; rfl, _, hK, ?_⟩
 have hout : sub ((caNew (ws0 4 1) 4).layW 0 lba d).sd.snap 0 32 = ((caNew (ws0 4 1) 4).layI 0 lba d).out := by
  have e1 : ((caNew (ws0 4 1) 4).layW 0 lba d).sd.snap = layO (ws0 4 1).sd.snap (0, ((caNew (ws0 4 1) 4).layI 0 lba d).out) := rfl
  have hlen0 : (ws0 4 1).sd.snap.length = 760 := by rw [z2u (wst0 true (m := 4) rfl 1).fit]; rfl
  have ho : ((caNew (ws0 4 1) 4).layI 0 lba d).out.length = 32 := by rw [zm5]; exact hd
  rw [e1, zlj (by dsimp only; rw [hlen0, ho]; decide) (by dsimp only; decide) (by dsimp only; rw [ho]; decide)]
  dsimp only
  show sub _ (0 - 0) 32 = _
  rw [sub, List.drop_zero, List.take_of_length_le (by omega)]
 rw [hout, hM, q2, hks]
 refine zik ?_
 rw [hL1]
 have hf := (Seq.nil.put ((caNew (ws0 4 1) 4).layI 0 lba d).key ((caNew (ws0 4 1) 4).layI 0 lba d).n ((caNew (ws0 4 1) 4).layI 0 lba d).head ((caNew (ws0 4 1) 4).layI 0 lba d).data).found 0 (by simp)
 have hI : ([] ++ [newI (([] : List Iss).length + 1) ((caNew (ws0 4 1) 4).layI 0 lba d).key ((caNew (ws0 4 1) 4).layI 0 lba d).n ((caNew (ws0 4 1) 4).layI 0 lba d).head ((caNew (ws0 4 1) 4).layI 0 lba d).data] : List Iss) = [(caNew (ws0 4 1) 4).layI 0 lba d] := rfl
 simp only [hI, List.getElem_cons_zero] at hf
 rw [← hl]
 exact hf
theorem Rest.hasV (h : Rest s k l d) {x : CaS} (hx : x.s = s) (hnow : x.now = l :: List.replicate 3 lf0) : HasV x l.lba 0 l d := by
 obtain ⟨X, kX, oX⟩ := h.o
 refine ⟨?_, by rw [hnow]; simp, by rw [hnow]; rfl, h.k, h.e, by rw [hx]; exact h.le, rfl, ?_⟩
 ·rw [ixF, hnow]
  have : slotP l.lba l = true := by simp [slotP, h.k]
  simp [List.findIdx_cons, this]
 ·rw [hx, Nat.mul_zero, kX.snap h.st.fit.sd]; exact oX
end
end Go.Proofs.YthblcmnhiccnhaaGreat


namespace Go.Proofs.YthblcmnhiccnhaaGreat
open Go Go.Abs

theorem Rest.mono {s : WS} {k k' : Nat} {l : Lf} {d : Bs} (h : Rest s k l d) (hk : k ≤ k') : Rest s k' l d := { h with st := h.st.mono hk }
structure BoxI (h0 h : AHeap) (b : Nat) (sv : AV) (l : Lf) (d : Bs) (i : Nat) (N : CaN) (x : CaS) : Prop where
 g : CaG true h N x
 r : Rest x.s (60 + 41 * i) l d
 now : x.now = l :: List.replicate 3 lf0
 bad : x.bad = false
 fr : x.s.pw.Free
 ag : AgOk x.ag 10
 bx : BoxAt h b (boxO (N.w.a + 10) (.ptr N.c 0 0) sv)
 nw : ∀ id, N.w.nm true id → h0.next ≤ id
 no : ∀ id, N.own id → h0.next ≤ id
 b0 : h0.next ≤ b
 b1 : ¬ N.w.nm true b
 b2 : ¬ N.own b
 kp : Kp (fun id => h0.next ≤ id) h0 h
section
variable {h0 h h' : AHeap} {b : Nat} {sv : AV} {l : Lf} {d : Bs} {i : Nat} {N : CaN} {x : CaS}
theorem BoxI.new (hb : BoxI h0 h b sv l d i N x) (hk : Kp (fun _ => False) h h') : BoxI h0 h' b sv l d i N x :=
 { hb with g := hb.g.new hk, bx := hb.bx.kp hk (fun h => h), kp := hb.kp.trans (hk.mono fun _ _ h => h.elim) }
theorem zp6 {s : WS} (h : s.pw.Free) : (s.loadS true).pw.Free := by rw [(z98 true s).2.2.1]; exact h
theorem BoxI.crash (hb : BoxI h0 h b sv l d i N x) (hi : i ≤ 20) (keep : List Bool) (hkl : keep.length ≤ 20) :
  AC Tryz.prog 16 [.ptr b 0 0, .agg [.int .i64 3, .int .i64 0, .int .i64 0, .nils, .int .i64 0, .int .i64 0, .nils, .imm 1 (keep.map encBo)]] h (fun r h' => r = .agg [.int .i64 0, .nils] ∧ ∃ N' x', BoxI h0 h' b sv l d (i + 1) N' x') := by
 obtain ⟨e1, e2, e3⟩ := hb.r.crash (by omega) (keepF keep)
 refine (zg6 hb.g.w hb.r.st (by omega) hb.r.dk hb.bx hb.b1 keep (by omega) e1 hb.r.ep (by rw [e2]; simp)).mono ?_
 rintro r h' ⟨rfl, N', hN, g', hf, bx', k'⟩
 have hx := hb.kp.next
 have hbl := hb.bx.u.1
 refine ⟨rfl, N', _, g', e3.mono (by omega), e2, rfl, zp6 (z44 _ _).spend, ?_, ?_, ?_, fun id hid => Nat.le_trans hx (hf id hid), hb.b0, by rw [hN]; exact hb.b1, fun hid => by have := hf b hid; omega, hb.kp.trans (k'.mono fun id _ q => q.elim (fun q => hb.nw id (.inl (WN.own_all q))) (fun e => e ▸ hb.b0))⟩
 ·show AgOk (agUp _ _) 10
  rw [e2]
  exact (zcd _ 4 (by omega)).mono (by omega)
 ·rw [hN]; exact bx'
 ·rw [hN]; exact hb.nw
end
end Go.Proofs.YthblcmnhiccnhaaGreat


namespace Go.Proofs.YthblcmnhiccnhaaGreat
open Go Go.Abs

theorem set7 (y : UInt8) : (List.replicate 32 [AV.int .u8 0]).set 7 [.int .u8 y.toNat] = ((List.replicate 32 (0 : UInt8)).set 7 y).map encB := by
 rw [List.map_set]; rfl
set_option maxHeartbeats 8000000 in
theorem zbw (lba : Int) (y : UInt8) (times : Int) (keep : List Bool) (h : AHeap) : AE Tryz.prog 3 [.int .i64 lba, .int .u8 y.toNat, .int .i64 times, .imm 1 (keep.map encBo)] h (.bool true) h := by
 refine AE.pureW zbq (by simp) ?_
 unfold z5p; dsimp only [qQ, qR, qM, qG]
 (refine go ?_)
 (apply WL.orB; exact rfl; exact rfl; exact rfl; exact BP.of; intro hz1)
 ·(repeat first | (apply GW.goS; exact Stp.auto) | apply GW.nil | exact rfl)
 (refine go ?_)
 (apply WL.orB; exact rfl; exact rfl; exact rfl; exact BP.of; intro hz2)
 ·(repeat first | (apply GW.goS; exact Stp.auto) | apply GW.nil | exact rfl)
 (refine go ?_)
 (apply WL.orB; exact rfl; exact rfl; exact rfl; exact BP.of; intro hz3)
 ·(repeat first | (apply GW.goS; exact Stp.auto) | apply GW.nil | exact rfl)
 (refine go ?_)
 (apply WL.orB; exact rfl; exact rfl; exact rfl; exact BP.of; intro hz4)
 ·(repeat first | (apply GW.goS; exact Stp.auto) | apply GW.nil | exact rfl)
 (refine go ?_)
 (refine WW.ifB rfl (fun hz5 => ?_) (fun hz5 => ?_))
 ·(refine go ?_)
  refine WW.ret (PureQ.finD ?_)
  exact fz_b rfl
 have hh : (0 ≤ lba ∧ lba < 32) ∧ (0 ≤ times ∧ times ≤ 10) ∧ keep.length ≤ 20 := by simp at hz5; omega
 obtain ⟨hlba, ht, hkl⟩ := hh
 clear hz5
 obtain ⟨T, rfl⟩ : ∃ T : Nat, times = T := ⟨times.toNat, by omega⟩
 have hT : T ≤ 10 := by omega
 clear ht
 (refine go ?_)
 refine WL.callA rfl gM gSL (zbt true 4 rfl 1 h) ?_
 rintro _ h1 ⟨N, b, rfl, g1, b1, hn, hN, hb, ⟨hb1, hb2⟩, k1, w1⟩
 have hbl1 := b1.u.1
 have hx1 := k1.next
 (repeat first | refine WW.seq ?_ | refine WW.reg ?_ | refine WL.nil ?_ | refine WW.skip ?_ | refine WW.block ?_ | refine thenN ?_ | refine blkN ?_); iterate 5 (refine WL.go ?_)
 (repeat first | refine WW.seq ?_ | refine WW.reg ?_ | refine WL.nil ?_ | refine WW.skip ?_ | refine WW.block ?_ | refine thenN ?_ | refine blkN ?_); iterate 2 (refine WL.go ?_)
 (repeat first | refine WW.seq ?_ | refine WW.reg ?_ | refine WL.nil ?_ | refine WW.skip ?_ | refine WW.block ?_ | refine thenN ?_ | refine blkN ?_)
 refine WW.condF rfl ?_
 (repeat first | refine WW.seq ?_ | refine WW.reg ?_ | refine WL.nil ?_ | refine WW.skip ?_ | refine WW.block ?_ | refine thenN ?_ | refine blkN ?_); iterate 2 (refine WL.go ?_)
 (repeat first | refine WW.seq ?_ | refine WW.reg ?_ | refine WL.nil ?_ | refine WW.skip ?_ | refine WW.block ?_ | refine thenN ?_ | refine blkN ?_); iterate 3 (refine WL.go ?_)
 (repeat first | refine WW.seq ?_ | refine WW.reg ?_ | refine WL.nil ?_ | refine WW.skip ?_ | refine WW.block ?_ | refine thenN ?_ | refine blkN ?_); iterate 1 (refine WL.go ?_)
 have hset := set7 y
 have hdl : ((List.replicate 32 (0 : UInt8)).set 7 y).length = 32 := by simp
 generalize hdd : (List.replicate 32 (0 : UInt8)).set 7 y = d at *
 refine WL.nil ?_
 refine thenN ?_
 refine WW.cvt (Cvt.frz (s := 11) (sz := 1) (cc := (List.replicate 32 [AV.int .u8 0]).set 7 [.int .u8 y.toNat]) rfl gH) ?_
 rw [hset, List.drop_zero, List.take_of_length_le (by simp [hdl])]
 refine WW.named (fun h2 => CaG true h2 N (caNew (ws0 4 1) 4) ∧ CaW h2 N (caNew (ws0 4 1) 4) ∧ BoxAt h2 b (boxO (N.w.a + 10) (.ptr N.c 0 0) .nils) ∧ Kp (fun id => h.next ≤ id) h h2) ⟨?_, ?_, ?_, ?_⟩ ?_
 ·exact g1.new (by repeat first | exact Kp.refl | assumption | with_reducible refine Kp.put ?_ (by omega) _ | with_reducible refine Kp.setN ?_ (by omega) _ | with_reducible refine Kp.keep ?_ _ | with_reducible refine Kp.setW ?_ (by rfl) _)
 ·exact w1.kp (W := fun _ => False) g1 (by repeat first | exact Kp.refl | assumption | with_reducible refine Kp.put ?_ (by omega) _ | with_reducible refine Kp.setN ?_ (by omega) _ | with_reducible refine Kp.keep ?_ _ | with_reducible refine Kp.setW ?_ (by rfl) _) (fun h => h)
 ·exact b1.kp (W := fun _ => False) (by repeat first | exact Kp.refl | assumption | with_reducible refine Kp.put ?_ (by omega) _ | with_reducible refine Kp.setN ?_ (by omega) _ | with_reducible refine Kp.keep ?_ _ | with_reducible refine Kp.setW ?_ (by rfl) _) (fun h => h)
 ·exact k1.trans (Kp.mono (W := fun _ => False) (by repeat first | exact Kp.refl | assumption | with_reducible refine Kp.put ?_ (by omega) _ | with_reducible refine Kp.setN ?_ (by omega) _ | with_reducible refine Kp.keep ?_ _ | with_reducible refine Kp.setW ?_ (by rfl) _) fun _ _ h => h.elim)
 clear g1 w1 b1 k1 hset
 rintro h2 ⟨g2, w2, b2, k2⟩
 have hx2 := k2.next
 (refine go ?_)
 refine WL.callA rfl gM gSL (zg4 g2 w2 b2 caOk0 (by omega) rfl rfl agOk0 (by omega) rfl (by decide) (f := 0) rfl (by decide) rfl lba hlba d hdl) ?_
 rintro _ h3 ⟨n3, x3, e3, v3, rfl, _, ⟨rfl, rfl, rfl⟩, g3, mv3, k3⟩
 have hx3 := k3.next
 have hbl2 := b2.u.1
 have hwn3 : ∀ id, n3.w.nm true id → h.next ≤ id := fun id hi => (mv3.w id hi).elim (hn id) (fun q => Nat.le_trans hx2 q)
 have hon3 : ∀ id, n3.own id → h.next ≤ id := fun id hi => (mv3.o id hi).elim (hN id) (fun q => Nat.le_trans hx2 q)
 have hbn3 : ¬ n3.w.nm true b := fun hi => (mv3.w b hi).elim hb1 (fun q => by omega)
 have hbo3 : ¬ n3.own b := fun hi => (mv3.o b hi).elim hb2 (fun q => by omega)
 have b3 : BoxAt h3 b (boxO (n3.w.a + 10) (.ptr n3.c 0 0) .nils) := by
  rw [mv3.a, mv3.c]
  exact b2.kp k3 (fun hh => hh.elim (fun q => hb1 (.inl (WN.own_all q))) hb2)
 have kA : Kp (fun id => h.next ≤ id) h h3 := k2.trans (k3.mono fun id _ hh => hh.elim (fun q => hn id (.inl (WN.own_all q))) (hN id))
 have hx := caOk0.wrote (f := 0) (lba := lba) (d := d) (by omega) (by decide) (by decide) (by decide) hlba hdl
 obtain ⟨l, rfl, h0, hnow, hfr, R⟩ := zs7 lba hlba d hdl
 have hag : AgOk ((caNew (ws0 4 1) 4).wrote 0 l.lba d).ag 10 := (show AgOk ((caNew (ws0 4 1) 4).wrote 0 l.lba d).ag 1 from agOk0.touch (x := 0) (by decide)).mono (by decide)
 have hbad : ((caNew (ws0 4 1) 4).wrote 0 l.lba d).bad = false := rfl
 have hgo : ((caNew (ws0 4 1) 4).wrote 0 l.lba d).s.pw.gone = false := rfl
 clear g2 mv3 k3 b2 k2 hn hN hb1 hb2
 generalize (caNew (ws0 4 1) 4).wrote 0 l.lba d = x3 at *
 (refine go ?_)
 refine WL.callA rfl gM gSL (zhb g3 hx (by omega) hgo hbad b3) ?_
 rintro _ h4 ⟨n4, x4, e4, v4, rfl, _, ⟨rfl, rfl, rfl⟩, g4, mv4, k4⟩
 rw [h0]
 have hxa := kA.next
 have hbl3 := b3.u.1
 have I0 : BoxI h h4 b .nils l d 0 n4 (x3.com true) := by
  refine ⟨g4, R.mono (by omega), hnow, hbad, hfr, hag, ?_, fun id hi => (mv4.w id hi).elim (hwn3 id) (fun q => Nat.le_trans hxa q), fun id hi => (mv4.o id hi).elim (hon3 id) (fun q => Nat.le_trans hxa q), hb, fun hi => (mv4.w b hi).elim hbn3 (fun q => by omega), fun hi => (mv4.o b hi).elim hbo3 (fun q => by omega), kA.trans (k4.mono fun id _ hh => hh.elim (fun q => hwn3 id (.inl (WN.own_all q))) (hon3 id))⟩
  rw [mv4.a, mv4.c]
  exact b3.kp k4 (fun hh => hh.elim (fun q => hbn3 (.inl (WN.own_all q))) hbo3)
 clear g3 mv4 g4 k4 b3 kA hwn3 hon3 hbn3 hbo3 hx hag hfr R
 generalize x3.com true = x4 at *
 (refine go ?_)
 refine WW.loopE (fun (s : Nat × CaN × CaS) => [(0, some (.int .i64 l.lba)), (2, some (.int .i64 T)), (3, some (.imm 1 (keep.map encBo))), (9, some (.ptr b 0 0)), (11, some (.imm 1 (d.map encB))), (12, some (.int .i64 s.1))])
  (fun s h' => BoxI h h' b .nils l d s.1 s.2.1 s.2.2 ∧ s.1 ≤ T) (fun s => T - s.1) (0, n4, x4) gSUB ⟨I0, Nat.zero_le _⟩ ?_
 clear I0
 rintro ⟨i, N, x⟩ h5 ⟨I, hi⟩
 dsimp only at I hi ⊢
 (refine go ?_)
 (refine WW.ifB rfl (fun hz6 => ?_) (fun hz6 => ?_))
 ·(refine go ?_)
  refine WL.callA rfl gM gSL (I.crash (by omega) keep hkl) ?_
  rintro _ h6 ⟨rfl, N', x', I'⟩
  (refine go ?_)
  exact ⟨(i + 1, N', x'), gSUB, ⟨I', by dsimp only; omega⟩, by dsimp only; omega⟩
 ·have hl4 : (x.now.length : Int) = x.s.n := by rw [I.now, I.r.n]; rfl
  (refine go ?_)
  refine WL.callA rfl gM gSL (zhi I.g I.bx I.r.st (by omega) I.fr.g I.bad hl4 I.ag (by omega) l.lba hlba (I.r.hasV rfl I.now)) ?_
  rintro _ h7 ⟨n7, x7, e7, v7, rfl, _, ⟨rfl, rfl, rfl⟩, g7, mv7, k7⟩
  have kB : Kp (fun id => h.next ≤ id) h h7 := I.kp.trans (k7.mono fun id _ hh => hh.elim (fun q => I.nw id (.inl (WN.own_all q))) (I.no id))
  have hx7 := kB.next
  clear I g7 mv7 k7
  (refine go ?_)
  rw [show (d == d) = true from beq_self_eq_true d]
  refine WL.call rfl gM gSL (zh9 _) ?_
  (refine go ?_)
  have k10 := kB.keeps (fun _ h => h)
  refine WW.ret (PureQ.finD ?_)
  exact fz_b rfl
theorem zju (c0 : List AV) (t0 : TypL [.i .i64] c0) (c1 : List AV) (t1 : TypL [.i .u8] c1) (c2 : List AV) (t2 : TypL [.i .i64] c2) (c3 : List AV) (t3 : TypL [.sl [.b]] c3) : AE Tryz.prog 3 [c0.headD .nilp, c1.headD .nilp, c2.headD .nilp, c3.headD .nilp] z23 (.bool true) z23 := by
 obtain ⟨a, rfl, _⟩ := zko t0
 obtain ⟨b, rfl⟩ := zt3 t1
 obtain ⟨c, rfl, _⟩ := zko t2
 obtain ⟨l, vs, rfl, t', _⟩ := zto t3
 exact zbw a b c l z23
end Go.Proofs.YthblcmnhiccnhaaGreat


