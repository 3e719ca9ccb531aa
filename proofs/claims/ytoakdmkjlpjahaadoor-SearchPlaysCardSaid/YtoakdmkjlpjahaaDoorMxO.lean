/-
  The abstract machine: functions; what may be given up behind a call.
-/
import Derived.Test.YtoakdmkjlpjahaaDoorMxNa
namespace Go.Mx
open Go.RowKit
set_option linter.unusedVariables false
set_option linter.unusedSimpArgs false

def resA (P : Program) (fr : Fr) (H : Hp) : ResultVar → Option AV
  | .tmp t => opV fr (.tmp t)
  | .cell s t => match aggT P t, szT P t, look s fr.slots with
    | some g, some z, some x => loadS fr H g z x
    | _, _, _ => none

/-- What a function hands back. -/
def retA (P : Program) (res : List ResultVar) (Q : AV → Hp → Prop) (fr : Fr) (H : Hp) : Prop :=
  match mapO (resA P fr H) res with
  | some [x] => Q x H
  | some xs => Q (.tup xs) H
  | none => False
def retK (P : Program) (res : List ResultVar) (Q : AV → Hp → Prop) : Exit → Fr → Hp → Prop
  | .normal, fr, H => retA P res Q fr H
  | .ret, fr, H => retA P res Q fr H
  | _, _, _ => False

def argSlots (i : Nat) : List AV → List (Nat × SV)
  | [] => []
  | x :: xs => (i, .av x) :: argSlots (i + 1) xs
def fr0 (args : List AV) : Fr := { slots := argSlots 0 args, boxes := [] }

theorem argSlots_look {t : Nat} {x : SV} : ∀ (xs : List AV) (i : Nat), look t (argSlots i xs) = some x → ∃ j y, t = i + j ∧ xs[j]? = some y ∧ x = .av y
  | [], i, h => by simp [argSlots, look] at h
  | y :: xs, i, h => by
    simp only [argSlots, look] at h
    split at h
    · rename_i e; simp at h; exact ⟨0, y, by omega, rfl, h.symm⟩
    · obtain ⟨j, z, h1, h2, h3⟩ := argSlots_look xs (i + 1) h
      exact ⟨j + 1, z, by omega, by simpa using h2, h3⟩

section
variable {P : Program} {N : Nat} {fr : Fr} {H : Hp} {ρ : Rho} {I : Imm} {β : Nat → Option Nat} {a : Act} {w w' : World} {cf : Cfg}

def resRun (tmps : Array Value) (r : ResultVar) : Sem Value := match r with
  | .tmp t => pure (tmps.getD t undef)
  | .cell s t => do loadVar t (← asAddr (tmps.getD s undef))
theorem results_eq (fn : Func) (tmps : Array Value) : results fn tmps = (do let vs ← fn.results.mapM (resRun tmps); pure (if h : vs.size = 1 then vs[0] else .tuple vs)) := rfl

theorem res_sound (hs : Sim N ρ I β fr H a w) {r : ResultVar} {x : AV} (h : resA P fr H r = some x) : ∃ u, (resRun a.tmps r).run P w = .ok u w ∧ VR ρ I x u := by
  cases r with
  | tmp t => exact ⟨_, rfl, opV_sound hs h⟩
  | cell s t =>
    simp only [resA] at h
    split at h <;> (first | (exfalso; simp at h; done) | skip)
    rename_i g z y hg hz hy
    obtain ⟨u, hu, hv⟩ := load_sound (P := P) hs hg hz (hs.slot s y hy) h
    refine ⟨u, ?_, hv⟩
    unfold Instr.loadAt at hu
    have : ∀ v, (do loadVar t (← Instr.sureAddr v) : Sem Value).run P w = .ok u w → (do loadVar t (← asAddr v) : Sem Value).run P w = .ok u w := by
      intro v hv
      cases v <;> simp [Instr.sureAddr] at hv
      rename_i ad
      cases ad with
      | none => simp at hv
      | some ad => simpa [asAddr] using hv
    exact this _ hu

theorem results_sound (hs : Sim N ρ I β fr H a w) {fn : Func} {xs : List AV} (h : mapO (resA P fr H) fn.results.toList = some xs) :
    ∃ us : List Value, (results fn a.tmps).run P w = .ok (if h : us.length = 1 then us[0] else .tuple us.toArray) w ∧ VRs ρ I xs us := by
  have key : ∀ (rs : List ResultVar) (xs : List AV), mapO (resA P fr H) rs = some xs → ∃ us : List Value, (rs.mapM (resRun a.tmps)).run P w = .ok us w ∧ VRs ρ I xs us := by
    intro rs
    induction rs with
    | nil => intro xs h; simp [mapO] at h; subst h; exact ⟨[], rfl, VRs.nil⟩
    | cons r rs ih =>
      intro xs h
      simp only [mapO] at h
      split at h <;> simp at h
      subst h
      rename_i y ys hy hys
      obtain ⟨u, hu, hv⟩ := res_sound (P := P) hs hy
      obtain ⟨us, hus, hvs⟩ := ih ys hys
      refine ⟨u :: us, ?_, VRs.cons hv hvs⟩
      rw [List.mapM_cons]
      simp only [Sem.run_bind, hus, hu, Sem.run_pure, Result.andThen_ok]
  obtain ⟨us, hus, hvs⟩ := key _ _ h
  refine ⟨us, ?_, hvs⟩
  rw [results_eq, ← Array.toArray_toList (xs := fn.results), List.mapM_toArray]
  simp only [Sem.run_bind, Sem.run_map, hus, Result.andThen_ok, Sem.run_pure]
  rfl

theorem Sp.of_body {f : Nat} {fn : Func} {c : Code} {args : List AV} {Q : AV → Hp → Prop} (ann : List (Nat × Keep)) (cf : Cfg) (tabs : List (Nat × List Ent)) (hm : P.follows .mixedOrders = true) (hf : P.funcs[f]? = some fn) (hb : fn.body = some c) (hn : args.length ≤ fn.ntmps) (hc : codeB P cf tabs c = true)
    (h : ev P fn.ntmps cf ann c (retK P fn.results.toList Q) (fr0 args) H) : Sp P f args Q H := by
  intro ρ I w us hst hvs
  refine calls_of_wp hf hb ?_
  have hs : Sim fn.ntmps ρ I (fun _ => none) (fr0 args) H { tmps := us.toArray ++ Array.replicate (fn.ntmps - us.toArray.size) undef, defers := [] } w := by
    refine ⟨hst, rfl, by simp; have := hvs.1; omega, fun t x hx => ?_, fun t cs h => by simp [fr0, look] at h, fun t t' cs cs' b h => by simp [fr0, look] at h⟩
    obtain ⟨j, y, rfl, hy, rfl⟩ := argSlots_look args 0 hx
    obtain ⟨u, hu, hv⟩ := hvs.get hy
    have hlt := (List.getElem?_eq_some_iff.1 hu).1
    rw [Array.getD_eq_getD_getElem?, Array.getElem?_append_left (by simp; omega)]
    simp only [Nat.zero_add, List.getElem?_toArray, hu, Option.getD_some]
    exact hv
  refine wp_mono (ev_sound hm c _ _ H hc h ρ I _ _ w hs) ?_
  rintro e a' w' ⟨fr', H', ρ', I', β', hm, hs', hk⟩
  have fin : retA P fn.results.toList Q fr' H' → a'.defers = [] ∧ ∃ v, (results fn a'.tmps).run P w' = .ok v w' ∧ ∃ x u ρ' I' H', Ending.returned v = .returned u ∧ Mv ρ I H w ρ' I' H' w' ∧ VR ρ' I' x u ∧ Q x H' := by
    intro hr
    have hmv : Mv ρ I H w ρ' I' H' w' := by
      refine ⟨hm.ext, ⟨hm.fw.os, hm.fw.tape, hm.fw.output, hm.fw.size, fun b hb hL => hm.fw.keep b hb (fun ho => ?_), fun b hb => ?_⟩, fun b hb => ?_, hs'.heap⟩
      · rcases ho with ho | ⟨t, cs, h1, _⟩
        · exact hL ho
        · simp [fr0, look] at h1
      · rcases hm.fw.new b (.inl hb) with ho | ho
        · rcases ho with ho | ⟨t, cs, h1, _⟩
          · exact .inl ho
          · simp [fr0, look] at h1
        · exact .inr ho
      · rcases hm.imm b hb with ho | ho | ho
        · exact .inl ho
        · rcases ho with ho | ⟨t, cs, h1, _⟩
          · exact .inr (.inl ho)
          · simp [fr0, look] at h1
        · exact .inr (.inr ho)
    unfold retA at hr
    split at hr <;> (first | exact hr.elim | skip)
    · rename_i x hx
      obtain ⟨us', hrun, hv⟩ := results_sound (P := P) hs' hx
      obtain ⟨u, rfl⟩ : ∃ u, us' = [u] := by
        have := hv.1
        match us', this with
        | [u], _ => exact ⟨u, rfl⟩
      refine ⟨hs'.defers, u, by simpa using hrun, x, u, ρ', I', H', rfl, hmv, ?_, hr⟩
      simpa using hv.2 0 x rfl
    · rename_i xs hne hx
      obtain ⟨us', hrun, hv⟩ := results_sound (P := P) hs' hx
      have h1 : us'.length ≠ 1 := by
        rw [hv.1]
        intro e
        match xs, e with
        | [x], _ => exact hne x rfl
      refine ⟨hs'.defers, .tuple us'.toArray, by rw [hrun]; simp [h1], .tup xs, _, ρ', I', H', rfl, hmv, .tup xs us' hv.1 hv.2, hr⟩
  cases e with
  | normal => exact fin hk
  | ret => exact fin hk
  | exit id => exact hk.elim
  | goto l => exact hk.elim
  | panic ch => exact hk.elim
  | outgrown => exact hk.elim

/-! ### What is given up behind a call -/
/-- An abstract value leads to objects below n alone. -/
inductive Low (n : Nat) : AV → Prop where
  | v (x : Value) : Low n (.v x)
  | row (x : Bool) (m : Nat) (cs : List AV) : (∀ (i : Nat) (c : AV), cs[i]? = some c → Low n c) → Low n (.row x m cs)
  | sl (id ver sz off m : Nat) : id < n → Low n (.sl id ver sz off m)
  | ptr (id ver off : Nat) : id < n → Low n (.ptr id ver off)
  | rp (cs : List AV) (off : Nat) : (∀ (i : Nat) (c : AV), cs[i]? = some c → Low n c) → Low n (.rp cs off)
  | mp (id : Nat) : id < n → Low n (.mp id)
  | it (id : Nat) : id < n → Low n (.it id)
  | fn (f : Fn) (xs ys : List AV) : (∀ (i : Nat) (c : AV), xs[i]? = some c → Low n c) → (∀ (i : Nat) (c : AV), ys[i]? = some c → Low n c) → Low n (.fn f xs ys)
  | agg (cs : List AV) : (∀ (i : Nat) (c : AV), cs[i]? = some c → Low n c) → Low n (.agg cs)
  | tup (cs : List AV) : (∀ (i : Nat) (c : AV), cs[i]? = some c → Low n c) → Low n (.tup cs)

def Rho.cut (ρ : Rho) (n : Nat) : Rho := fun id ver => if id < n then ρ id ver else none

theorem VR.cut {n : Nat} {x : AV} {u : Value} (h : VR ρ I x u) (hl : Low n x) : VR (ρ.cut n) I x u := by
  induction h with
  | v x => exact .v x
  | row x m cs us ad cap h1 h2 h3 h4 h5 h6 ih =>
    cases hl with
    | row _ _ _ hl => exact .row x m cs us ad cap h1 (fun i c hc => ih i c hc (hl i c hc)) h3 h4 h5 h6
  | sl id ver sz off m l cap h1 h2 h3 h4 =>
    cases hl with
    | sl _ _ _ _ _ hl => exact .sl id ver sz off m l cap (by simp [Rho.cut, hl, h1]) h2 h3 h4
  | ptr id ver off l h1 =>
    cases hl with
    | ptr _ _ _ hl => exact .ptr id ver off l (by simp [Rho.cut, hl, h1])
  | rp cs us ad off h1 h2 h3 ih =>
    cases hl with
    | rp _ _ hl => exact .rp cs us ad off h1 (fun i c hc => ih i c hc (hl i c hc)) h3
  | mp id l h1 =>
    cases hl with
    | mp _ hl => exact .mp id l (by simp [Rho.cut, hl, h1])
  | it id l h1 =>
    cases hl with
    | it _ hl => exact .it id l (by simp [Rho.cut, hl, h1])
  | fn f xs ys us vs h1 h2 h3 h4 ih1 ih2 =>
    cases hl with
    | fn _ _ _ hl1 hl2 => exact .fn f xs ys us vs h1 (fun i c hc => ih1 i c hc (hl1 i c hc)) h3 (fun i c hc => ih2 i c hc (hl2 i c hc))
  | agg cs us h1 h2 h3 ih =>
    cases hl with
    | agg _ hl => exact .agg cs us h1 (fun i c hc => ih i c hc (hl i c hc)) h3
  | tup cs us h1 h2 ih =>
    cases hl with
    | tup _ hl => exact .tup cs us h1 (fun i c hc => ih i c hc (hl i c hc))

/-- What an object of the heap holds leads to objects below n alone. -/
def LowOb (n : Nat) : Ob → Prop
  | .cells _ cs => ∀ c ∈ cs, Low n c
  | .map es _ => ∀ e ∈ es, Low n e.2.1 ∧ Low n e.2.2
  | .mapIter (some m) _ _ _ => m < n
  | _ => True

theorem CellsR.cut {n blk base size : Nat} {cs : List AV} (h : CellsR ρ I w blk base size cs) (hl : ∀ c ∈ cs, Low n c) : CellsR (ρ.cut n) I w blk base size cs := by
  obtain ⟨arr, T, h1, h2, h3, h4⟩ := h
  refine ⟨arr, T, h1, h2, h3, fun i c hc => ?_⟩
  obtain ⟨u, hu, hv, ho⟩ := h4 i c hc
  exact ⟨u, hu, hv.cut (hl c (List.mem_of_getElem? hc)), ho⟩

/-- Objects from n on are forgotten. -/
theorem Mv.drop {ρ' : Rho} {I' : Imm} {H' G : Hp} (hs : StH ρ I H w) (m : Mv ρ I H w ρ' I' (H' ++ G) w') (hle : H.length ≤ H'.length) (hl : ∀ o ∈ H', LowOb H'.length o) :
    Mv ρ I H w (ρ'.cut H'.length) I' H' w' := by
  have hget : ∀ id o, H'[id]? = some o → (H' ++ G)[id]? = some o ∧ id < H'.length := fun id o h => by
    have hlt := (List.getElem?_eq_some_iff.1 h).1
    exact ⟨by rw [List.getElem?_append_left hlt]; exact h, hlt⟩
  have hblk : ∀ id o, id < H'.length → blkOf (ρ'.cut H'.length) id o = blkOf ρ' id o := by
    intro id o hlt; cases o <;> simp [blkOf, Rho.cut, hlt]
  refine ⟨⟨fun id ver l h => ?_, m.ext.i⟩, ⟨m.fw.os, m.fw.tape, m.fw.output, m.fw.size, m.fw.keep, ?_⟩, m.imm, ?_, m.st.imm, ?_, ?_, ?_⟩
  · have hlt := hs.dom id ver l h
    simp only [Rho.cut]
    rw [if_pos (by omega)]
    exact m.ext.r id ver l h
  · rintro b ⟨id, o, h1, h2⟩
    obtain ⟨h3, hlt⟩ := hget id o h1
    rw [hblk id o hlt] at h2
    exact m.fw.new b ⟨id, o, h3, h2⟩
  · intro id ver l h
    simp only [Rho.cut] at h
    split at h
    · assumption
    · simp at h
  · intro id o h
    obtain ⟨h3, hlt⟩ := hget id o h
    have hob := m.st.obj id o h3
    have hlo := hl o (List.mem_of_getElem? h)
    have hn : ∀ v, ρ' id v = none → ρ'.cut H'.length id v = none := fun v hv => by simp [Rho.cut, hv]
    cases o with
    | dead => trivial
    | cells ver cs =>
      obtain ⟨h1, l, h2, h4⟩ := hob
      exact ⟨fun v hv => hn v (h1 v hv), l, by simp [Rho.cut, hlt, h2], h4.cut hlo⟩
    | map es clock =>
      obtain ⟨h1, l, ms, h2, h4, h5, h6⟩ := hob
      refine ⟨fun v hv => hn v (h1 v hv), l, ms, by simp [Rho.cut, hlt, h2], h4, h5, fun i e he => ?_⟩
      obtain ⟨mm, hm1, hm2, hm3, hm4⟩ := h6 i e he
      have := hlo e (List.mem_of_getElem? he)
      exact ⟨mm, hm1, hm2, hm3.cut this.1, hm4.cut this.2⟩
    | mapIter mm since seen st =>
      cases mm with
      | none =>
        obtain ⟨h1, l, h2, h4⟩ := hob
        exact ⟨fun v hv => hn v (h1 v hv), l, by simp [Rho.cut, hlt, h2], h4⟩
      | some mm =>
        obtain ⟨h1, l, lm, h2, h3', h4⟩ := hob
        have hmm : mm < H'.length := hlo
        exact ⟨fun v hv => hn v (h1 v hv), l, lm, by simp [Rho.cut, hlt, h2], by simp [Rho.cut, hmm, h3'], h4⟩
    | strIter s pos =>
      obtain ⟨h1, l, h2, h4⟩ := hob
      exact ⟨fun v hv => hn v (h1 v hv), l, by simp [Rho.cut, hlt, h2], h4⟩
    | tab g us => exact hob
  · intro id id' o o' b h1 h2 hb1 hb2
    obtain ⟨h3, hlt⟩ := hget id o h1
    obtain ⟨h4, hlt'⟩ := hget id' o' h2
    rw [hblk id o hlt] at hb1
    rw [hblk id' o' hlt'] at hb2
    exact m.st.inj id id' o o' b h3 h4 hb1 hb2
  · intro id o b h1 hb1
    obtain ⟨h3, hlt⟩ := hget id o h1
    rw [hblk id o hlt] at hb1
    exact m.st.apart id o b h3 hb1

end
end Go.Mx
