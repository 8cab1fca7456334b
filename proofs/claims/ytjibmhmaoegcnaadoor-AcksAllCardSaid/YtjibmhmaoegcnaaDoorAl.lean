/- chartroomlaw33.AcksAll returns true for all numbers of members, folders, stores and rows of flags; what the arguments lead to reads afterwards as before. Condition: the tables of the package digest (start, numbers) hold what the program's text lays there; the card ties that to the text. -/
import Derived.Test.YtjibmhmaoegcnaaDoorAl1
import Derived.Test.YtjibmhmaoegcnaaDoorCards
import Derived.Test.YtjibmhmaoegcnaaDoorTie
namespace Go.Proofs.YtjibmhmaoegcnaaDoor
open Go.ChangeShapes Go.WideShapes Go.ChangeAt Go.RowKit Go.Deep
set_option linter.unusedVariables false
set_option maxHeartbeats 2000000 in
set_option maxRecDepth 100000 in
theorem all_big (np gp : Option Addr) (nc gc x y : Nat) (fo st : Int) (w : World) (hK : Laid w) (h : x = 0 ∨ 5 < x ∨ 60 < y) :
    Calls Tryd.prog 6 #[.slice np x nc, .int .i64 fo, .int .i64 st, .slice gp y gc] w fun e w' => e = .returned (.bool true) ∧ Gr w none w' := by
  by_cases h0 : x = 0
  · subst h0
    go_enter Tryd.func6, Tryd.ntmps6
    go_wp2_with (go_at_call 8; refine (sane_any w hK).mono ?_; rintro e w1 ⟨rfl, hG1⟩)
    go_ret
    exact ⟨rfl, hG1⟩
  · have b1 : ((x : Int) == 0) = false := by simp [h0]
    by_cases h5 : 5 < x
    · have b2 : (5 : Int) < (x : Int) := by omega
      clear h
      go_enter Tryd.func6, Tryd.ntmps6
      go_wp2_with (go_at_call 8; refine (sane_any w hK).mono ?_; rintro e w1 ⟨rfl, hG1⟩)
      go_ret
      exact ⟨rfl, hG1⟩
    · have b2 : ¬ (5 : Int) < (x : Int) := by omega
      have b3 : (60 : Int) < (y : Int) := by omega
      clear h
      go_enter Tryd.func6, Tryd.ntmps6
      go_wp2_with (go_at_call 8; refine (sane_any w hK).mono ?_; rintro e w1 ⟨rfl, hG1⟩)
      go_ret
      exact ⟨rfl, hG1⟩
theorem all_any {w : World} {vn vg : Value} {ns : List UInt8} {gs : List Bool} (fo st : Int) (hn : InRow (fun c => [B8 c]) w vn ns) (hg : InRow (fun c => [Value.bool c]) w vg gs) (hK : Laid w) :
    Calls Tryd.prog 6 #[vn, .int .i64 fo, .int .i64 st, vg] w fun e w' => e = .returned (.bool true) ∧ Gr w none w' := by
  obtain ⟨np, nb, no, nc, rfl, hnp⟩ := hn.form
  obtain ⟨gp, gb, go, gc, rfl, hgp⟩ := hg.form
  by_cases h : 0 < ns.length ∧ ns.length ≤ 5 ∧ gs.length ≤ 60
  · exact all_walk np gp nb no gb go nc gc (fo % 16) (st % 4) ns gs w hK h.1 h.2.1 h.2.2 (by omega) (by omega) fo st rfl rfl (hnp.imp_right fun k => ⟨k.1, k.2.1, by have := k.2.2; rwa [← List.map_eq_flatMap] at this⟩) (hgp.imp_right fun k => ⟨k.1, k.2.1, by have := k.2.2; rwa [← List.map_eq_flatMap] at this⟩)
  · exact all_big np gp nc gc _ _ fo st w hK (by omega)
set_option maxRecDepth 100000 in
theorem lifted_acksAll (os : Os) (started : os.Started) (H : Type) (enc : TypeId × Value → H) :
    ReturnsInHanded {} Tryd.checked os 6 .any (fun w args => (Rows.acksAllSpec.pre enc Tryd.prog Tryd.f6 [] false w args ∧ laidMetH Tryd.prog laidList w) ∧ sizedMet enc Tryd.prog Tryd.f6 (OpenSpec.ofChange Rows.acksAllSpec) false w args)
      (Rows.acksAllSpec.post enc Tryd.prog Tryd.f6 false true false false) := by
  refine returnsInHanded_of_change_and (C := Tryd.checked) (X := fun w _ => laidMetH Tryd.prog laidList w) (fun _ _ _ hh h => h.of_heap hh) own started (by kernel_rfl) Tryd.func6
    (ChangeSpec.witness_shaped (enc := enc) (C := Tryd.checked) (os := os) (X := fun w _ => laidMetH Tryd.prog laidList w) false (World.doorLaid Tryd.prog 400 os) #[.slice none 0 0, .int .i64 0, .int .i64 0, .slice none 0 0] 8 rfl (World.shaped_of_RefB (by kernel_rfl) (by kernel_rfl)) (by kernel_rfl) (by kernel_rfl) (by kernel_rfl) (door_met os _)) ?_
  intro W base args ds gs before hval0 hW _ _ hL _
  have hval : ∀ (j : Nat) t v, (Tryd.f6).params[j]? = some t → args[j]? = some v → Value.okWide Tryd.prog W .any base t v := hval0
  have hW' := hW
  obtain ⟨p, q, hA0, hV, rfl, hfz, hnd⟩ := hW
  have hA : DataW.TrodAll enc Tryd.prog W 0 (fun _ => true) true (Tryd.f6).params.toList args.toList ds p := hA0
  rw [Tryd.params6] at hA hval
  obtain ⟨v0, vs0, d0, ds0, p0, q0, hargs, rfl, rfl, h0, r0⟩ := trodAll_cons hA
  obtain ⟨v1, vs1, d1, ds1, p1, q1, rfl, rfl, rfl, h1, r1⟩ := trodAll_cons r0
  obtain ⟨v2, vs2, d2, ds2, p2, q2, rfl, rfl, rfl, h2, r2⟩ := trodAll_cons r1
  obtain ⟨v3, vs3, d3, ds3, p3, q3, rfl, rfl, rfl, h3, r3⟩ := trodAll_cons r2
  obtain ⟨rfl, rfl, rfl⟩ := trodAll_nil r3
  obtain rfl : args = #[v0, v1, v2, v3] := by cases args; simp_all
  obtain ⟨rfl, rfl⟩ := trodVars_none hV
  have lt : ∀ {t v d p}, DataW.Trod enc Tryd.prog W 0 (fun _ => true) true t v d p → ∀ x ∈ p, x.block < W.heap.size := fun h => by obtain ⟨m, hm⟩ := h; exact DataW.trod_lt m _ _ _ hm
  obtain ⟨ns, hn, _⟩ := row_in (s := 1) (fun c => [B8 c]) (fun _ => True) Tryd.underlying28 (by kernel_rfl) (by decide) (fun n cs x hc hx => byte_of hc hx) (hval 0 28 v0 rfl rfl) h0
  obtain ⟨fo, rfl, rfl, rfl, w1⟩ := open_int Tryd.underlying3 (hval 1 3 v1 rfl rfl) h1
  obtain ⟨st, rfl, rfl, rfl, w2⟩ := open_int Tryd.underlying3 (hval 2 3 v2 rfl rfl) h2
  obtain ⟨gs, hg, _⟩ := row_in (s := 1) (fun c => [Value.bool c]) (fun _ => True) Tryd.underlying58 (by kernel_rfl) (by decide) (fun n cs x hc hx => bool_of hc hx) (hval 3 58 v3 rfl rfl) h3
  clear hA0 hval0
  refine (all_any fo st hn hg (of_laid hL)).mono fun e W' ⟨he, hG⟩ => ?_
  subst he
  have bel := hG.below
  exact ⟨_, rfl, _, _, _, [], _, [], hW', trodAll_mk1 (shut_bool Tryd.underlying4 _), (trodAll_cons_mk (Below.trod laidOut (by kernel_rfl) (of_decide_eq_true (by kernel_rfl)) h0 bel (lt h0)) (trodAll_cons_mk (shut_int Tryd.underlying3 w1) (trodAll_cons_mk (shut_int Tryd.underlying3 w2) (trodAll_cons_mk (Below.trod laidOut (by kernel_rfl) (of_decide_eq_true (by kernel_rfl)) h3 bel (lt h3)) trodAll_mk0)))), rfl, bel.frame _, fun h => by cases h⟩
theorem acksAll_row : Rows.AcksAllSaid :=
  OpenClaim.holds_of_wide 6 Tryd.f6 rfl rfl rfl rfl rfl rfl rfl ⟨rfl, rfl, rfl, rfl, rfl⟩ rfl rfl rfl rfl rfl (by kernel_rfl) Tryd.func6 (by kernel_rfl)
    (of_decide_eq_true (by kernel_rfl)) (by unfold Func.isWrapper; first | (rw [if_pos (by decide +kernel)]; kernel_rfl) | (rw [if_neg (by decide +kernel)]; exact ⟨rfl, rfl⟩))
    (fun os started H enc _ => lifted_acksAll os started H enc)
theorem acksAll_card : Rows.AcksAllCardSaid :=
  Claim7.holds_tied_plain_at .later [] [.data, .data] true (true, "a0da19af548fc01d2ba10f022eee1b07bd49a250b478fe29e7cc8b56ecb7496b") true
    acksAll_row (fun _ h => by cases h) (by kernel_rfl) (fun _ h => by cases h) acksAll_row_tie rfl ⟨rfl, rfl⟩ (by kernel_rfl) rfl
    (fun f fn hf hfn => by
      obtain rfl : f = 6 := Option.some.inj ((show Tryd.prog.funcNamed "chartroom/chartroomlaw33.AcksAll" = some 6 by kernel_rfl).symm.trans hf) |>.symm
      obtain rfl : fn = Tryd.f6 := (Option.some.inj (Tryd.func6.symm.trans hfn)).symm
      exact ⟨by kernel_rfl, fun j t ht => by
        rw [Tryd.params6] at ht
        have hm : t ∈ [28, 3, 3, 58] := by simpa using Array.mem_of_getElem? ht
        have hall : ([28, 3, 3, 58].all fun u => !Tryd.prog.wantsStandIn u) = true := by kernel_rfl
        exact (show Tryd.prog.wantsStandIn t = false by simpa using List.all_eq_true.1 hall t hm)⟩)
    (by kernel_rfl)
#print axioms acksAll_card
end Go.Proofs.YtjibmhmaoegcnaaDoor
