/- The abstract layer, part 10: every instruction that answers, answers as the real operation does. -/
import Derived.Test.YtlddahcgaonlhaaA9
set_option linter.all false
namespace Go.Abs
open Go

section
variable {P : Program} {N : Nat} {m : Inj} {h : AHeap} {w : World} {e : Env} {a : Act} {nm : Nat} {o : Oper}

theorem evalI_ok (hr : HR m h w) (hf : ¬ h.used nm) (he : ER N m h w e a) {i : Ins} (hc : compileOp P N o = some i) {r : Option AV} {f : Eff} (hv : evalI nm i e h.get = some (r, f)) : OpOK P o a m h w nm r f := by
  cases hop : o.op <;> simp only [compileOp, hop] at hc <;> try (cases hc; done)
  case move x => obtain ⟨y, hy, rfl⟩ := mapOpd hc; exact ok_mov hr he (.inl hop) hy hv
  case assign x => obtain ⟨y, hy, rfl⟩ := mapOpd hc; exact ok_mov hr he (.inr hop) hy hv
  case pick c x y =>
    split at hc
    · rename_i h1 h2 h3; cases hc; exact ok_pick hr he hop h1 h2 h3 hv
    · cases hc
  case alloc t =>
    split at hc
    · rename_i z hz
      cases hi : P.info? t with
      | none => simp [hi] at hz
      | some i =>
        simp [hi] at hz
        split at hc
        · cases hc
        · cases hzs : ofL ofV z.cells.toList with
          | none => simp [hzs] at hc
          | some zs => simp [hzs] at hc; subst hc; exact ok_alloc hr hf hi hz hzs hop hv
    · cases hc
  case box t x =>
    split at hc
    · rename_i i y h1 h2; cases hc; exact ok_box hr hf he h1 hop h2 hv
    · cases hc
  case build t ps =>
    split at hc
    · rename_i fs z hu hz
      cases hi : P.info? t with
      | none => simp [hi] at hz
      | some it =>
        simp [hi] at hz
        split at hc
        · rename_i zs q hzs hq
          split at hc
          · rename_i hall; cases hc; exact ok_build_struct hr he hu hi hz hzs hall hq hop hv
          · cases hc
        · cases hc
    · rename_i n el z hu hz
      cases hi : P.info? t with
      | none => simp [hi] at hz
      | some it =>
        simp [hi] at hz
        split at hc
        · rename_i ie hie
          split at hc
          · rename_i zs q hzs hq; cases hc; exact ok_build_array hr he hu hi hie hz hzs hq hop hv
          · cases hc
        · cases hc
    · cases hc
  case buildSlice t n ps =>
    split at hc
    · rename_i el hu
      split at hc
      · rename_i i hi
        split at hc
        · rename_i h0
          cases hc
          obtain ⟨rfl, hps⟩ := h0
          have : ps = #[] := by simpa using hps
          subst this
          exact ok_bsl0 hr hu hi hop hv
        · split at hc
          · rename_i xs z hxs hz
            split at hc
            · rename_i hcond; cases hc; exact ok_bsl hr he hu hi hz hxs hcond.1 hcond.2.1 hcond.2.2.1 hcond.2.2.2.1 hcond.2.2.2.2 hop hv
            · cases hc
          · cases hc
      · cases hc
    · cases hc
  case load t x =>
    split at hc
    · rename_i sz ag y h1 h2
      split at hc
      · rename_i hag; cases hc; exact ok_load hr he h1 hag hop h2 hv
      · cases hc
    · cases hc
  case store t x y =>
    split at hc
    · rename_i i x' y' h1 h2 h3; cases hc; exact ok_store hr he h1 hop h2 h3 hv
    · cases hc
  case nilCheck x => obtain ⟨y, hy, rfl⟩ := mapOpd hc; exact ok_nilck hr he hop hy hv
  case binOp op t x y u =>
    split at hc
    · rename_i x' y' h1 h2
      have eqc : ∀ {neg : Bool}, op = .eql ∧ neg = false ∨ op = .neq ∧ neg = true → (match (generalizing := false) P.underlying t with
          | some (.int _) => some (.bin op x' y')
          | some (.slice _) => match (generalizing := false) y with
            | .const (.slice none 0 0) => some (.isnil neg x')
            | _ => none
          | _ => (eqKind P t y).map fun k => .eqv k neg x' y') = some i → OpOK P o a m h w nm r f := by
        intro neg hn hc
        split at hc
        · cases hc; exact ok_bin hr he hop h1 h2 hv
        · rename_i el hu
          split at hc
          · cases hc; exact ok_isnil hr he hn hu hop h1 hv
          · cases hc
        · cases hk : eqKind P t y with
          | none => simp [hk] at hc
          | some k => simp [hk] at hc; subst hc; exact ok_eqv hr he hn hk hop h1 h2 hv
      cases op <;> simp only at hc
      case shl => cases hc; exact ok_sh hr he hop h1 h2 hv
      case shr => cases hc; exact ok_sh hr he hop h1 h2 hv
      case eql => exact eqc (.inl ⟨rfl, rfl⟩) hc
      case neq => exact eqc (.inr ⟨rfl, rfl⟩) hc
      all_goals (cases hc; exact ok_bin hr he hop h1 h2 hv)
    · cases hc
  case unOp op t x =>
    cases op <;> simp only at hc <;> try (cases hc; done)
    obtain ⟨y, hy, rfl⟩ := mapOpd hc; exact ok_not hr he hop hy hv
  case convert s d x =>
    split at hc
    · rename_i k0 k x' h1 h2 h3; cases hc; exact ok_conv hr he h1 h2 hop h3 hv
    · rename_i el x' h1 h2 h3
      split at hc
      · rename_i hel; cases hc; exact ok_b2s hr he h1 h2 hel hop h3 hv
      · cases hc
    · cases hc
  case makeFunc fn xs ys =>
    split at hc
    · rename_i xs' ys' h1 h2; cases hc; exact ok_mkf hr he hop h1 h2 hv
    · cases hc
  case makeSlice t l c =>
    split at hc
    · rename_i el l' c' hu h1 h2
      split at hc
      · rename_i i hi
        split at hc
        · rename_i z hz
          split at hc
          · rename_i zs hzs
            split at hc
            · rename_i hcond; cases hc; exact ok_mksl hr hf he hu hi hz hzs hcond.1 hcond.2.1 hcond.2.2 hop h1 h2 hv
            · cases hc
          · cases hc
        · cases hc
      · cases hc
    · cases hc
  case slice t x lo hi mx =>
    cases mx <;> simp only at hc <;> try (cases hc; done)
    split at hc
    · rename_i el x' hu h1
      split at hc
      · rename_i inf hi'
        cases lo <;> cases hi <;> simp only at hc
        · cases hc; exact ok_slc (lo := none) (hi' := none) (lo' := none) (hj' := none) hr he hu hi' hop h1 trivial trivial hv
        · rename_i rr
          cases hr' : ofOpd N rr with
          | none => simp [hr'] at hc
          | some r' => simp [hr'] at hc; subst hc; exact ok_slc (lo := none) (hi' := some rr) (lo' := none) (hj' := some r') hr he hu hi' hop h1 trivial hr' hv
        · rename_i ll
          cases hl' : ofOpd N ll with
          | none => simp [hl'] at hc
          | some l' => simp [hl'] at hc; subst hc; exact ok_slc (lo := some ll) (hi' := none) (lo' := some l') (hj' := none) hr he hu hi' hop h1 hl' trivial hv
        · rename_i ll rr
          split at hc
          · rename_i l' r' hl' hr'; cases hc; exact ok_slc (lo := some ll) (hi' := some rr) (lo' := some l') (hj' := some r') hr he hu hi' hop h1 hl' hr' hv
          · cases hc
      · cases hc
    · cases hc
  case fieldAddr s x fi =>
    split at hc
    · rename_i fs x' hu h1
      split at hc
      · rename_i fd hfd
        split at hc
        · rename_i i hi
          split at hc
          · rename_i hz; cases hc; exact ok_faddr hr he hu hfd hi hz hop h1 hv
          · cases hc
        · cases hc
      · cases hc
    · cases hc
  case field s x fi =>
    split at hc
    · rename_i fs x' hu h1
      split at hc
      · rename_i fd hfd
        split at hc
        · rename_i sz ag ht
          split at hc
          · rename_i hag; cases hc; exact ok_fld hr he hu hfd ht hag hop h1 hv
          · cases hc
        · cases hc
      · cases hc
    · cases hc
  case indexAddr t x y =>
    split at hc
    · rename_i el x' y' hu h1 h2
      split at hc
      · rename_i inf hi; cases hc; exact ok_iaddr hr he hu hi hop h1 h2 hv
      · cases hc
    · rename_i n el x' y' hu h1 h2
      split at hc
      · rename_i inf hi; cases hc; exact ok_iaddrA hr he hu hi hop h1 h2 hv
      · cases hc
    · cases hc
  case extract x n => obtain ⟨y, hy, rfl⟩ := mapOpd hc; exact ok_ext hr he hop hy hv
  case call c =>
    split at hc
    · rename_i hcal
      split at hc
      · rename_i x t ha hat
        split at hc
        · rename_i el x' hu h1; cases hc; exact ok_len hr he hop hcal ha hat hu h1 hv
        · cases hc
      · cases hc
    · rename_i hcal
      split at hc
      · rename_i s x t u ha hat
        split at hc
        · rename_i el el' s' x' hu hu' h1 h2
          split at hc
          · rename_i inf hi
            split at hc
            · rename_i z hz
              split at hc
              · rename_i hcond
                cases hc
                obtain ⟨_, rfl, c1, c2, c3⟩ := hcond
                exact ok_app hr hf he hop hcal ha hat hu hi hz c1 c2 c3 h1 h2 hv
              · cases hc
            · cases hc
          · cases hc
        · cases hc
      · cases hc
    · rename_i hcal
      split at hc
      · rename_i d s t ha hat
        split at hc
        · rename_i el d' s' hu h1 h2
          split at hc
          · rename_i inf hi; cases hc; exact ok_cpy hr he hop hcal ha hat hu hi h1 h2 hv
          · cases hc
        · cases hc
      · cases hc
    · rename_i hcal
      split at hc
      · rename_i x y ha
        split at hc
        · rename_i x' y' h1 h2; cases hc; exact ok_mn hr he hop hcal ha h1 h2 hv
        · cases hc
      · cases hc
    · split at hc
      · split at hc
        · cases hc; simp [evalI] at hv
        · cases hc
      · cases hc
    · split at hc
      · cases hc; simp [evalI] at hv
      · cases hc
    · cases hc
end
end Go.Abs
