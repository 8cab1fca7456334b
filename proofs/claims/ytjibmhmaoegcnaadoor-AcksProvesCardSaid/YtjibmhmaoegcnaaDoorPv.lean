/- chartroomlaw33.AcksProves returns true for all members, acknowledgements and entries, folders and stores; what the arguments lead to reads afterwards as before. Condition: the tables of the package digest (start, numbers) hold what the program's text lays there; the card ties that to the text. -/
import Derived.Test.YtjibmhmaoegcnaaDoorPv2
import Derived.Test.YtjibmhmaoegcnaaDoorCards
import Derived.Test.YtjibmhmaoegcnaaDoorTie
namespace Go.Proofs.YtjibmhmaoegcnaaDoor
open Go.ChangeShapes Go.WideShapes Go.ChangeAt Go.RowKit Go.Deep
set_option linter.unusedVariables false
set_option maxHeartbeats 2000000 in
set_option maxRecDepth 100000 in
theorem proves_big (mp lp ep : Option Addr) (mc lc ec x y z : Nat) (fo st : Int) (w : World) (hK : Laid w) (h : ¬ (x ≤ 6 ∧ y ≤ 12 ∧ z ≤ 60)) :
    Calls Tryd.prog 4 #[.slice mp x mc, .int .i64 fo, .int .i64 st, .slice lp y lc, .slice ep z ec] w fun e w' => e = .returned (.bool true) ∧ Gr w none w' := by
  have hfew := decide_eq_false h
  clear h
  go_enter Tryd.func4, Tryd.ntmps4
  go_wp2_with (first
    | (go_at_call 8; refine (sane_any w hK).mono ?_; rintro e w1 ⟨rfl, hG1⟩)
    | (go_at_call 13; refine (few_any _ _ _ _ _ _ _ _ _ w1).mono ?_; rintro e w2 ⟨rfl, hG2⟩; rw [hfew]))
  go_ret
  exact ⟨rfl, hG1.trans hG2⟩
theorem proves_any {w : World} {vm vl ve : Value} {ms : List Mem} {l : List Ack} {es : List Ent} (fo st : Int) (hm : InRow Mem.cells w vm ms) (hl : InRow Ack.cells w vl l) (he : InRow Ent.cells w ve es) (hK : Laid w) (hlq : ∀ a ∈ l, a.ch.length = 32 ∧ a.ints) (hmd : ∀ m ∈ ms, i64ok m.d) (hef : ∀ e ∈ es, e.fit) :
    Calls Tryd.prog 4 #[vm, .int .i64 fo, .int .i64 st, vl, ve] w fun e w' => e = .returned (.bool true) ∧ Gr w none w' := by
  obtain ⟨mp, mb, mo, mc, rfl, hmp⟩ := hm.form
  obtain ⟨lp, lb, lo, lc, rfl, hlp⟩ := hl.form
  obtain ⟨ep, eb, eo, ec, rfl, hep⟩ := he.form
  by_cases h : ms.length ≤ 6 ∧ l.length ≤ 12 ∧ es.length ≤ 60
  · exact proves_walk mp lp ep mb mo lb lo eb eo mc lc ec fo st ms l es w hK hlq h.2.1 h.1 hmd hef h.2.2 hlp hmp hep
  · exact proves_big mp lp ep mc lc ec _ _ _ fo st w hK h
set_option maxRecDepth 100000 in
theorem lifted_acksProves (os : Os) (started : os.Started) (H : Type) (enc : TypeId × Value → H) :
    ReturnsInHanded {} Tryd.checked os 4 .any (fun w args => (Rows.acksProvesSpec.pre enc Tryd.prog Tryd.f4 [] false w args ∧ laidMetH Tryd.prog laidList w) ∧ sizedMet enc Tryd.prog Tryd.f4 (OpenSpec.ofChange Rows.acksProvesSpec) false w args)
      (Rows.acksProvesSpec.post enc Tryd.prog Tryd.f4 false true false false) := by
  refine returnsInHanded_of_change_and (C := Tryd.checked) (X := fun w _ => laidMetH Tryd.prog laidList w) (fun _ _ _ hh h => h.of_heap hh) own started (by kernel_rfl) Tryd.func4
    (ChangeSpec.witness_shaped (enc := enc) (C := Tryd.checked) (os := os) (X := fun w _ => laidMetH Tryd.prog laidList w) false (World.doorLaid Tryd.prog 400 os) #[.slice none 0 0, .int .i64 0, .int .i64 0, .slice none 0 0, .slice none 0 0] 8 rfl (World.shaped_of_RefB (by kernel_rfl) (by kernel_rfl)) (by kernel_rfl) (by kernel_rfl) (by kernel_rfl) (door_met os _)) ?_
  intro W base args ds gs before hval0 hW _ _ hL _
  have hval : ∀ (j : Nat) t v, (Tryd.f4).params[j]? = some t → args[j]? = some v → Value.okWide Tryd.prog W .any base t v := hval0
  have hW' := hW
  obtain ⟨p, q, hA0, hV, rfl, hfz, hnd⟩ := hW
  have hA : DataW.TrodAll enc Tryd.prog W 0 (fun _ => true) true (Tryd.f4).params.toList args.toList ds p := hA0
  rw [Tryd.params4] at hA hval
  obtain ⟨v0, vs0, d0, ds0, p0, q0, hargs, rfl, rfl, h0, r0⟩ := trodAll_cons hA
  obtain ⟨v1, vs1, d1, ds1, p1, q1, rfl, rfl, rfl, h1, r1⟩ := trodAll_cons r0
  obtain ⟨v2, vs2, d2, ds2, p2, q2, rfl, rfl, rfl, h2, r2⟩ := trodAll_cons r1
  obtain ⟨v3, vs3, d3, ds3, p3, q3, rfl, rfl, rfl, h3, r3⟩ := trodAll_cons r2
  obtain ⟨v4, vs4, d4, ds4, p4, q4, rfl, rfl, rfl, h4, r4⟩ := trodAll_cons r3
  obtain ⟨rfl, rfl, rfl⟩ := trodAll_nil r4
  obtain rfl : args = #[v0, v1, v2, v3, v4] := by cases args; simp_all
  obtain ⟨rfl, rfl⟩ := trodVars_none hV
  have lt : ∀ {t v d p}, DataW.Trod enc Tryd.prog W 0 (fun _ => true) true t v d p → ∀ x ∈ p, x.block < W.heap.size := fun h => by obtain ⟨m, hm⟩ := h; exact DataW.trod_lt m _ _ _ hm
  obtain ⟨ms, hms, hqm⟩ := row_in (s := 3) Mem.cells (fun m => i64ok m.d ∧ i64ok m.since ∧ i64ok m.ver) Tryd.underlying37 (by kernel_rfl) (by decide) (fun n cs x hc hx => trod_member hx) (hval 0 37 v0 rfl rfl) h0
  obtain ⟨fo, rfl, rfl, rfl, w1⟩ := open_int Tryd.underlying3 (hval 1 3 v1 rfl rfl) h1
  obtain ⟨st, rfl, rfl, rfl, w2⟩ := open_int Tryd.underlying3 (hval 2 3 v2 rfl rfl) h2
  obtain ⟨l, hl, hql⟩ := row_in (s := 38) Ack.cells (fun a => a.ch.length = 32 ∧ a.ints) Tryd.underlying38 (by kernel_rfl) (by decide) (fun n cs x hc hx => trod_ack hx) (hval 3 38 v3 rfl rfl) h3
  obtain ⟨es, hes, hqe⟩ := row_in (s := 35) Ent.cells Ent.fit Tryd.underlying39 (by kernel_rfl) (by decide) (fun n cs x hc hx => trod_entry hx) (hval 4 39 v4 rfl rfl) h4
  clear hA0 hval0
  refine (proves_any fo st hms hl hes (of_laid hL) hql (fun m h => (hqm m h).1) hqe).mono fun e W' ⟨he, hG⟩ => ?_
  subst he
  have bel := hG.below
  exact ⟨_, rfl, _, _, _, [], _, [], hW', trodAll_mk1 (shut_bool Tryd.underlying4 _), (trodAll_cons_mk (Below.trod laidOut (by kernel_rfl) (of_decide_eq_true (by kernel_rfl)) h0 bel (lt h0)) (trodAll_cons_mk (shut_int Tryd.underlying3 w1) (trodAll_cons_mk (shut_int Tryd.underlying3 w2) (trodAll_cons_mk (Below.trod laidOut (by kernel_rfl) (of_decide_eq_true (by kernel_rfl)) h3 bel (lt h3)) (trodAll_cons_mk (Below.trod laidOut (by kernel_rfl) (of_decide_eq_true (by kernel_rfl)) h4 bel (lt h4)) trodAll_mk0))))), rfl, bel.frame _, fun h => by cases h⟩
theorem acksProves_row : Rows.AcksProvesSaid :=
  OpenClaim.holds_of_wide 4 Tryd.f4 rfl rfl rfl rfl rfl rfl rfl ⟨rfl, rfl, rfl, rfl, rfl⟩ rfl rfl rfl rfl rfl (by kernel_rfl) Tryd.func4 (by kernel_rfl)
    (of_decide_eq_true (by kernel_rfl)) (by unfold Func.isWrapper; first | (rw [if_pos (by decide +kernel)]; kernel_rfl) | (rw [if_neg (by decide +kernel)]; exact ⟨rfl, rfl⟩))
    (fun os started H enc _ => lifted_acksProves os started H enc)
theorem acksProves_card : Rows.AcksProvesCardSaid :=
  Claim7.holds_tied_plain_at .later [] [.data, .data] true (true, "a0da19af548fc01d2ba10f022eee1b07bd49a250b478fe29e7cc8b56ecb7496b") true
    acksProves_row (fun _ h => by cases h) (by kernel_rfl) (fun _ h => by cases h) acksProves_row_tie rfl ⟨rfl, rfl⟩ (by kernel_rfl) rfl
    (fun f fn hf hfn => by
      obtain rfl : f = 4 := Option.some.inj ((show Tryd.prog.funcNamed "chartroom/chartroomlaw33.AcksProves" = some 4 by kernel_rfl).symm.trans hf) |>.symm
      obtain rfl : fn = Tryd.f4 := (Option.some.inj (Tryd.func4.symm.trans hfn)).symm
      exact ⟨by kernel_rfl, fun j t ht => by
        rw [Tryd.params4] at ht
        have hm : t ∈ [37, 3, 3, 38, 39] := by simpa using Array.mem_of_getElem? ht
        have hall : ([37, 3, 3, 38, 39].all fun u => !Tryd.prog.wantsStandIn u) = true := by kernel_rfl
        exact (show Tryd.prog.wantsStandIn t = false by simpa using List.all_eq_true.1 hall t hm)⟩)
    (by kernel_rfl)
#print axioms acksProves_card
end Go.Proofs.YtjibmhmaoegcnaaDoor
