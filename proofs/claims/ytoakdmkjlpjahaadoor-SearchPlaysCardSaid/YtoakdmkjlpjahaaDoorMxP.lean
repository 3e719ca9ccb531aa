/-
  The abstract machine: how code is read, loops, what a caller may forget, where a law begins and ends.
-/
import Derived.Test.YtoakdmkjlpjahaaDoorMxO
namespace Go.Mx
open Go.RowKit
set_option linter.unusedVariables false
set_option linter.unusedSimpArgs false

/-! ### The reading, so that nothing unfolds it unasked -/
abbrev EvT := Program → Nat → Cfg → List (Nat × Keep) → Code → (Exit → Fr → Hp → Prop) → Fr → Hp → Prop
theorem evI_ex : ∃ f : EvT, f = ev := ⟨_, rfl⟩
noncomputable def evI : EvT := Classical.choose evI_ex
theorem evI_eq : evI = ev := Classical.choose_spec evI_ex
abbrev OpsT := Program → Nat → Cfg → Array Oper → List Oper → (Fr → Hp → Prop) → Fr → Hp → Prop
theorem evOpsI_ex : ∃ f : OpsT, f = evOps := ⟨_, rfl⟩
noncomputable def evOpsI : OpsT := Classical.choose evOpsI_ex
theorem evOpsI_eq : evOpsI = evOps := Classical.choose_spec evOpsI_ex

section
variable {P : Program} {N : Nat} {cf : Cfg} {ann : List (Nat × Keep)} {fr : Fr} {H : Hp} {K : Exit → Fr → Hp → Prop}

/-- A loop of the code. -/
def LoopC (P : Program) (N : Nat) (cf : Cfg) (ann : List (Nat × Keep)) (c : Code) (K : Exit → Fr → Hp → Prop) (kp : Keep) (xs : List AV) (bs : List (List AV)) (H : Hp) : Prop :=
  Loop (fun next xs bs H => evI P N cf ann c (seqK (headK kp next) K) (mkFr kp xs bs) H) xs bs H

theorem ev_skip : evI P N cf ann .skip K fr H = K .normal fr H := by rw [evI_eq]; rfl
theorem ev_seq (x y : Code) : evI P N cf ann (.seq x y) K fr H = evI P N cf ann x (seqK (evI P N cf ann y K) K) fr H := by rw [evI_eq]; rfl
theorem ev_cond (c : Operand) (x y : Code) : evI P N cf ann (.cond c x y) K fr H = condA fr c (fun fr => evI P N cf ann x K fr H) (fun fr => evI P N cf ann y K fr H) := by rw [evI_eq]; rfl
theorem ev_block (id : Nat) (c : Code) : evI P N cf ann (.block id c) K fr H = evI P N cf ann c (blockK id K) fr H := by rw [evI_eq]; rfl
theorem ev_scope (c : Code) : evI P N cf ann (.scope c) K fr H = evI P N cf ann c (noGotoK K) fr H := by rw [evI_eq]; rfl
theorem ev_label (l : Nat) : evI P N cf ann (.label l) K fr H = K .normal fr H := by rw [evI_eq]; rfl
theorem ev_exit (id : Nat) : evI P N cf ann (.exit id) K fr H = K (.exit id) fr H := by rw [evI_eq]; rfl
theorem ev_ret : evI P N cf ann .ret K fr H = K .ret fr H := by rw [evI_eq]; rfl
theorem ev_region (id : Nat) (ops : Array Oper) : evI P N cf ann (.region id ops false) K fr H = evOpsI P N cf ops ops.toList (fun fr H => K .normal fr H) fr H := by rw [evI_eq, evOpsI_eq]; rfl
theorem evOps_nil {all : Array Oper} {k : Fr → Hp → Prop} : evOpsI P N cf all [] k fr H = k fr H := by rw [evOpsI_eq]; rfl
theorem evOps_cons {all : Array Oper} {o : Oper} {rest : List Oper} {k : Fr → Hp → Prop} : evOpsI P N cf all (o :: rest) k fr H = opG P N cf all fr H o o.guard (evOpsI P N cf all rest k) := by rw [evOpsI_eq]; rfl
abbrev EvPT := Program → Nat → Cfg → Array Oper → List Stp → (Fr → Hp → Prop) → Fr → Hp → Prop
theorem evPI_ex : ∃ f : EvPT, f = evP := ⟨_, rfl⟩
noncomputable def evPI : EvPT := Classical.choose evPI_ex
theorem evPI_eq : evPI = evP := Classical.choose_spec evPI_ex
/-- What is looked at again, then the rest. -/
def chkK (P : Program) (ops : Array Oper) (chk : List Nat) (k : Fr → Hp → Prop) (fr : Fr) (H : Hp) : Prop := allQ P ops fr H chk ∧ k fr H
def opAt (P : Program) (N : Nat) (cf : Cfg) (ops : Array Oper) (k : Fr → Hp → Prop) (fr : Fr) (H : Hp) (o : Option Oper) : Prop := match o with
  | some o => opG P N cf ops fr H o o.guard k
  | none => False
def drawK (P : Program) (N : Nat) (cf : Cfg) (ops : Array Oper) (k : Fr → Hp → Prop) (fr : Fr) (H : Hp) (plan : Option (List Stp)) : Prop := match plan with
  | some plan => evPI P N cf ops plan k fr H
  | none => False
theorem ev_draw (id : Nat) (ops : Array Oper) : evI P N cf ann (.region id ops true) K fr H = drawK P N cf ops (K .normal) fr H (look id cf.plans) := by rw [evI_eq]; unfold drawK; rw [evPI_eq]; rfl
theorem evP_nil {ops : Array Oper} {k : Fr → Hp → Prop} : evPI P N cf ops [] k fr H = k fr H := by rw [evPI_eq]; rfl
theorem evP_q {ops : Array Oper} {k : Fr → Hp → Prop} (i : Nat) (r : List Stp) : evPI P N cf ops (.q i :: r) k fr H = opAt P N cf ops (evPI P N cf ops r k) fr H ops[i]? := by rw [evPI_eq]; rfl
theorem evP_s {ops : Array Oper} {k : Fr → Hp → Prop} (i : Nat) (chk bef : List Nat) (r : List Stp) : evPI P N cf ops (.s i chk bef :: r) k fr H = opAt P N cf ops (chkK P ops chk (evPI P N cf ops r k)) fr H ops[i]? := by rw [evPI_eq]; rfl
theorem opAt_some {ops : Array Oper} {k : Fr → Hp → Prop} (o : Oper) : opAt P N cf ops k fr H (some o) = opG P N cf ops fr H o o.guard k := (rfl)
theorem chkK_eq {ops : Array Oper} {k : Fr → Hp → Prop} (chk : List Nat) : chkK P ops chk k fr H = (allQ P ops fr H chk ∧ k fr H) := (rfl)
def loopK (kp : Option Keep) (L : Keep → List AV → List (List AV) → Hp → Prop) (fr : Fr) (H : Hp) : Prop := match kp with
  | some kp => headK kp (L kp) fr H
  | none => False
theorem ev_loop (c : Code) : evI P N cf ann (.loop c) K fr H = loopK (look (firstReg c) ann) (LoopC P N cf ann c K) fr H := by
  unfold LoopC
  rw [evI_eq]
  simp only [ev, loopK]
  split <;> simp_all [headK]

theorem LoopC.intro {c : Code} {kp : Keep} {xs : List AV} {bs : List (List AV)} (Inv : Nat → List AV → List (List AV) → Hp → Prop) (n0 : Nat) (h0 : Inv n0 xs bs H)
    (h : ∀ n xs bs H, Inv n xs bs H → evI P N cf ann c (seqK (headK kp (fun xs' bs' H' => ∃ m, m < n ∧ Inv m xs' bs' H')) K) (mkFr kp xs bs) H) : LoopC P N cf ann c K kp xs bs H :=
  ⟨Inv, n0, h0, h⟩

theorem Sp.body {f : Nat} {fn : Func} {c : Code} {args : List AV} {Q : AV → Hp → Prop} (ann : List (Nat × Keep)) (cf : Cfg) (tabs : List (Nat × List Ent)) (hm : P.follows .mixedOrders = true) (hf : P.funcs[f]? = some fn) (hb : fn.body = some c) (hn : args.length ≤ fn.ntmps) (hc : codeB P cf tabs c = true)
    (h : evI P fn.ntmps cf ann c (retK P fn.results.toList Q) (fr0 args) H) : Sp P f args Q H := Sp.of_body ann cf tabs hm hf hb hn hc (by rw [evI_eq] at h; exact h)

end

/-! ### What a caller may forget -/
section
variable {P : Program} {H : Hp} {ρ : Rho} {I : Imm} {w w' : World}

theorem Low.mono {n m : Nat} {x : AV} (h : Low n x) (hle : n ≤ m) : Low m x := by
  induction h with
  | v x => exact .v x
  | row x k cs _ ih => exact .row x k cs ih
  | sl id ver sz off k h => exact .sl _ _ _ _ _ (by omega)
  | ptr id ver off h => exact .ptr _ _ _ (by omega)
  | rp cs off _ ih => exact .rp cs off ih
  | mp id h => exact .mp _ (by omega)
  | it id h => exact .it _ (by omega)
  | fn f xs ys _ _ ih1 ih2 => exact .fn f xs ys ih1 ih2
  | agg cs _ ih => exact .agg cs ih
  | tup cs _ ih => exact .tup cs ih

theorem VR.low {n : Nat} {x : AV} {u : Value} (hd : ∀ id ver l, ρ id ver = some l → id < n) (h : VR ρ I x u) : Low n x := by
  induction h with
  | v x => exact .v x
  | row x m cs us ad cap h1 h2 h3 h4 h5 h6 ih => exact .row x m cs (fun i c hc => ih i c hc)
  | sl id ver sz off m l cap h1 h2 h3 h4 => exact .sl _ _ _ _ _ (hd _ _ _ h1)
  | ptr id ver off l h1 => exact .ptr _ _ _ (hd _ _ _ h1)
  | rp cs us ad off h1 h2 h3 ih => exact .rp cs off (fun i c hc => ih i c hc)
  | mp id l h1 => exact .mp _ (hd _ _ _ h1)
  | it id l h1 => exact .it _ (hd _ _ _ h1)
  | fn f xs ys us vs h1 h2 h3 h4 ih1 ih2 => exact .fn f xs ys (fun i c hc => ih1 i c hc) (fun i c hc => ih2 i c hc)
  | agg cs us h1 h2 h3 ih => exact .agg cs (fun i c hc => ih i c hc)
  | tup cs us h1 h2 ih => exact .tup cs (fun i c hc => ih i c hc)

theorem StH.low (hs : StH ρ I H w) : ∀ o ∈ H, LowOb H.length o := by
  intro o ho
  obtain ⟨id, hid⟩ := List.getElem?_of_mem ho
  have hob := hs.obj id o hid
  cases o with
  | dead => trivial
  | cells ver cs =>
    obtain ⟨_, l, _, arr, T, _, _, _, h4⟩ := hob
    intro c hc
    obtain ⟨i, hi⟩ := List.getElem?_of_mem hc
    obtain ⟨u, _, hv, _⟩ := h4 i c hi
    exact hv.low hs.dom
  | map es clock =>
    obtain ⟨_, l, ms, _, _, _, h6⟩ := hob
    intro e he
    obtain ⟨i, hi⟩ := List.getElem?_of_mem he
    obtain ⟨m, _, _, h7, h8⟩ := h6 i e hi
    exact ⟨h7.low hs.dom, h8.low hs.dom⟩
  | mapIter mm since seen st =>
    cases mm with
    | none => trivial
    | some mm =>
      obtain ⟨_, l, lm, _, h3, _⟩ := hob
      exact hs.dom _ _ _ h3
  | strIter s pos => trivial
  | tab g us => trivial

/-- What a call has laid new and hands nobody is forgotten. -/
theorem Sp.drop {f : Nat} {args : List AV} {Q : AV → Hp → Prop} (h : Sp P f args (fun v H' => ∃ H1 G, H' = H1 ++ G ∧ H.length ≤ H1.length ∧ Low H1.length v ∧ (∀ o ∈ H1, LowOb H1.length o) ∧ Q v H1) H) : Sp P f args Q H := by
  intro ρ I w us hs hv
  refine (h ρ I w us hs hv).mono ?_
  rintro e w' ⟨v, u, ρ', I', H', rfl, hm, hvr, H1, G, rfl, hle, hlow, hall, hq⟩
  exact ⟨v, u, _, I', H1, rfl, hm.drop hs hle hall, hvr.cut hlow, hq⟩

/-- All that a call has laid new is forgotten; what it hands back leads to none of it. -/
theorem Sp.clean {f : Nat} {args : List AV} {Q : AV → Hp → Prop} (h : Sp P f args (fun v H' => (∃ G, H' = H ++ G) ∧ Low 0 v ∧ Q v H) H) : Sp P f args Q H := by
  intro ρ I w us hs hv
  have h' : Sp P f args (fun v H' => ∃ H1 G, H' = H1 ++ G ∧ H.length ≤ H1.length ∧ Low H1.length v ∧ (∀ o ∈ H1, LowOb H1.length o) ∧ Q v H1) H := by
    refine h.mono ?_
    rintro v H' ⟨⟨G, rfl⟩, hl, hq⟩
    refine ⟨H, G, rfl, Nat.le_refl _, ?_, hs.low, hq⟩
    exact hl.mono (Nat.zero_le _)
  exact Sp.drop h' ρ I w us hs hv
end

/-! ### What is written no more -/
theorem freezeSl {P : Program} {H : Hp} {ρ : Rho} {I : Imm} {w : World} (hs : StH ρ I H w) {id ver sz off n : Nat} {cs : List AV} {u : Value} (hid : H[id]? = some (.cells ver cs)) (hle : off + n * sz ≤ cs.length)
    (hv : VR ρ I (.sl id ver sz off n) u) : ∃ I', Mv ρ I H w ρ I' (H.set id .dead) w ∧ VR ρ I' (.row false n ((cs.drop off).take (n * sz))) u := by
  cases hv with
  | sl _ _ _ _ _ l cap hl hn hcap hmx =>
    obtain ⟨hver, l', hl', hcell⟩ := hs.obj _ _ hid
    rw [hl] at hl'; simp at hl'; subst hl'
    have hI : I l.blk = none := hs.apart id _ _ hid (by simp [blkOf, hl])
    obtain ⟨arr, T, h1, h2, h3, h4⟩ := hcell
    have hm := Mv.freeze hs hid hl (Gw.refl w).weaken h1
    refine ⟨_, hm, ?_⟩
    have hget : ∀ (i : Nat) (c : AV), ((cs.drop off).take (n * sz))[i]? = some c → ∃ u, ((arr.toList.drop (l.base + off)).take (n * sz))[i]? = some u ∧ VR ρ I c u ∧ u.oneCell' = true := by
      intro i c hc
      rw [List.getElem?_take] at hc
      split at hc <;> simp at hc
      rename_i hi
      obtain ⟨u, hu, hv, ho⟩ := h4 (off + i) c hc
      refine ⟨u, ?_, hv, ho⟩
      rw [List.getElem?_take, if_pos hi, List.getElem?_drop, ← hu]
      simp [Nat.add_assoc]
    have hlen : ((arr.toList.drop (l.base + off)).take (n * sz)).length = ((cs.drop off).take (n * sz)).length := by simp [h2]; omega
    refine .row false n _ ((arr.toList.drop (l.base + off)).take (n * sz)) _ cap hlen (fun i c hc => ?_) ?_ (fun ad h => by simp at h; subst h; exact .inl rfl) hn (by simp)
    · obtain ⟨u, hu, hv, _⟩ := hget i c hc
      rw [List.getD_eq_getElem?_getD, hu]
      exact hv.ext hm.ext
    · right
      refine ⟨_, rfl, rfl, fun u hu => ?_, arr, by simp [Imm.set], fun i hi => ?_⟩
      · obtain ⟨i, hi⟩ := List.getElem?_of_mem hu
        have hlt := (List.getElem?_eq_some_iff.1 hi).1
        rw [hlen] at hlt
        obtain ⟨u', hu', _, ho⟩ := hget i _ (List.getElem?_eq_getElem hlt)
        rw [hi] at hu'; simp at hu'; subst hu'; exact ho
      · rw [List.getD_eq_getElem?_getD, List.getElem?_eq_getElem hi]
        simp [List.getElem_take, List.getElem_drop]

/-- The slice that is handed back is written no more. -/
theorem Sp.frozen {P : Program} {H : Hp} {f : Nat} {args : List AV} {Q : AV → Hp → Prop} (h : Sp P f args (fun v H' => ∃ id ver sz off n cs, v = .sl id ver sz off n ∧ H'[id]? = some (.cells ver cs) ∧ off + n * sz ≤ cs.length ∧ Q (.row false n ((cs.drop off).take (n * sz))) (H'.set id .dead)) H) : Sp P f args Q H := by
  intro ρ I w us hs hv
  refine (h ρ I w us hs hv).mono ?_
  rintro e w' ⟨v, u, ρ', I', H', rfl, hm, hvr, id, ver, sz, off, n, cs, rfl, hid, hle, hq⟩
  obtain ⟨I'', hm', hv'⟩ := freezeSl (P := P) hm.st hid hle hvr
  exact ⟨_, u, _, I'', _, rfl, hm.trans hm', hv', hq⟩

/-- The slice that is handed back ahead of others is written no more. -/
theorem Sp.frozenT {P : Program} {H : Hp} {f : Nat} {args : List AV} {Q : AV → Hp → Prop} (h : Sp P f args (fun v H' => ∃ id ver sz off n cs vs, v = .tup (.sl id ver sz off n :: vs) ∧ H'[id]? = some (.cells ver cs) ∧ off + n * sz ≤ cs.length ∧ Q (.tup (.row false n ((cs.drop off).take (n * sz)) :: vs)) (H'.set id .dead)) H) : Sp P f args Q H := by
  intro ρ I w us hs hv
  refine (h ρ I w us hs hv).mono ?_
  rintro e w' ⟨v, u, ρ', I', H', rfl, hm, hvr, id, ver, sz, off, n, cs, vs, rfl, hid, hle, hq⟩
  cases hvr with
  | tup _ us hl hvs =>
    have h0 := hvs 0 _ rfl
    obtain ⟨I'', hm', hv'⟩ := freezeSl (P := P) hm.st hid hle h0
    refine ⟨_, _, _, I'', _, rfl, hm.trans hm', .tup _ us (by simpa using hl) (fun i c hc => ?_), hq⟩
    cases i with
    | zero => simp at hc; subst hc; exact hv'
    | succ i => exact (hvs (i + 1) c (by simpa using hc)).ext hm'.ext

theorem Sp.or {P : Program} {H : Hp} {f : Nat} {args : List AV} {Q : AV → Hp → Prop} (c : Prop) [Decidable c] (h : c → Sp P f args Q H) (k : ¬ c → Sp P f args Q H) : Sp P f args Q H := by
  by_cases hc : c
  · exact h hc
  · exact k hc

/-! ### Where a law begins and ends -/
def immOf (w : World) : Imm := fun b => match w.heap[b]? with
  | some (.cells arr _ _) => some arr
  | _ => none
def rho0 : Rho := fun _ _ => none

theorem stH0 (w : World) : StH rho0 (immOf w) [] w := by
  refine ⟨fun id ver l h => by simp [rho0] at h, fun b arr h => ?_, fun id o h => by simp at h, fun id id' o o' b h => by simp at h, fun id o b h => by simp at h⟩
  unfold immOf at h
  split at h <;> simp at h
  rename_i arr' T fz hb
  subst h
  exact ⟨T, fz, hb⟩

theorem Sp.law {P : Program} {f : Nat} {args : List AV} {us : List Value} {w : World} (h : Sp P f args (fun v _ => v = .v (.bool true)) []) (hv : VRs rho0 (immOf w) args us) :
    Calls P f us.toArray w (fun e w' => e = .returned (.bool true) ∧ Below w.heap.size w w') := by
  refine (h rho0 (immOf w) w us (stH0 w) hv).mono ?_
  rintro e w' ⟨v, u, ρ', I', H', rfl, hm, hvr, rfl⟩
  cases hvr
  exact ⟨rfl, hm.fw.below (fun b hb => by rintro ⟨id, o, h, _⟩; simp at h)⟩

/-- A heap of tables alone. -/
def Tabs (I : Imm) (H : Hp) : Prop := ∀ id o, H[id]? = some o → o = .dead ∨ ∃ us, o = .tab id us ∧ Rd I ⟨id, 0, none⟩ us
theorem Tabs.blk {I : Imm} {H : Hp} (h : Tabs I H) {id : Nat} {o : Ob} (ho : H[id]? = some o) : blkOf rho0 id o = none := by
  rcases h id o ho with rfl | ⟨us, rfl, _⟩ <;> rfl
theorem stT0 (w : World) {H : Hp} (h : Tabs (immOf w) H) : StH rho0 (immOf w) H w := by
  have h0 := stH0 w
  refine ⟨fun id ver l hl => by simp [rho0] at hl, h0.imm, fun id o ho => ?_, fun id id' o o' b ho ho' hb _ => ?_, fun id o b ho hb => ?_⟩
  · rcases h id o ho with rfl | ⟨us, rfl, hr⟩
    · trivial
    · exact hr
  · rw [h.blk ho] at hb; simp at hb
  · rw [h.blk ho] at hb; simp at hb
theorem Sp.lawT {P : Program} {f : Nat} {args : List AV} {us : List Value} {w : World} {H : Hp} (hT : Tabs (immOf w) H) (h : Sp P f args (fun v _ => v = .v (.bool true)) H) (hv : VRs rho0 (immOf w) args us) :
    Calls P f us.toArray w (fun e w' => e = .returned (.bool true) ∧ Below w.heap.size w w') := by
  refine (h rho0 (immOf w) w us (stT0 w hT) hv).mono ?_
  rintro e w' ⟨v, u, ρ', I', H', rfl, hm, hvr, rfl⟩
  cases hvr
  exact ⟨rfl, hm.fw.below (fun b hb => by rintro ⟨id, o, h1, h2⟩; rw [hT.blk h1] at h2; simp at h2)⟩

/-- A slice of whole numbers as an argument. -/
theorem VR.ofRow {w : World} {ρ : Rho} {k : IntKind} {a : Option Addr} {len cap : Nat} {zs : List Int} (hs : ∀ x, a = some x → x.spot = none)
    (h : (a = none ∧ len = 0 ∧ cap = 0 ∧ zs = []) ∨ ∃ x, a = some x ∧ len ≤ cap ∧ zs.length = cap ∧ ∀ i, i < zs.length → w.cell? (x.add i) = some (.int k (zs.getD i 0))) :
    VR ρ (immOf w) (.row false len ((zs.take len).map fun n => .v (.int k n))) (.slice a len cap) := by
  rcases h with ⟨rfl, rfl, rfl, rfl⟩ | ⟨x, rfl, h1, h2, h3⟩
  · exact .row false 0 _ [] none 0 rfl (fun i c hc => by simp at hc) (.inl ⟨rfl, rfl⟩) (by simp) (Nat.le_refl _) (by simp)
  · have hx := hs x rfl
    refine .row false len _ ((zs.take len).map fun n => .int k n) (some x) cap (by simp) (fun i c hc => ?_) ?_ (fun ad h => .inl (hs ad h)) h1 (by simp)
    · rw [List.getElem?_map] at hc
      cases hz : (zs.take len)[i]? with
      | none => rw [hz] at hc; simp at hc
      | some z =>
        rw [hz] at hc; simp at hc; subst hc
        rw [List.getD_eq_getElem?_getD, List.getElem?_map, hz]
        exact .v _
    · cases len with
      | zero => left; simp
      | succ len =>
        right
        refine ⟨x, rfl, hx, fun u hu => by obtain ⟨z, _, rfl⟩ := List.mem_map.1 hu; rfl, ?_⟩
        have hadd : ∀ i, x.add i = ⟨x.block, x.off + i, none⟩ := fun i => by
          unfold Addr.add
          split
          · rename_i h0; subst h0; obtain ⟨b, o, sp⟩ := x; simp at hx; simp [hx]
          · rfl
        have h0 := h3 0 (by omega)
        rw [hadd] at h0
        unfold World.cell? at h0
        split at h0 <;> simp at h0
        rename_i arr T fz hb
        refine ⟨arr, ?_, fun i hi => ?_⟩
        · simp [immOf, hb]
        · have hi' : i < zs.length := by simp at hi; omega
          have h4 := h3 i hi'
          rw [hadd] at h4
          unfold World.cell? at h4
          simp only [hb] at h4
          simp at h4
          rw [h4]
          simp at hi
          rw [List.getD_eq_getElem?_getD, List.getElem?_map, List.getElem?_take, if_pos (by omega)]
          simp [List.getElem?_eq_getElem hi']

end Go.Mx
