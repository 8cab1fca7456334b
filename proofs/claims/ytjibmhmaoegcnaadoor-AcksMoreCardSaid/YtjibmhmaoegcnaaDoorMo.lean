/- chartroomlaw33.AcksMore returns true for all members, acknowledgements, folders and stores, a further acknowledgement and a further member; what the arguments lead to reads afterwards as before. Condition: the tables of the package digest (start, numbers) hold what the program's text lays there; the card ties that to the text. -/
import Derived.Test.YtjibmhmaoegcnaaDoorMo1
import Derived.Test.YtjibmhmaoegcnaaDoorCards
import Derived.Test.YtjibmhmaoegcnaaDoorTie
namespace Go.Proofs.YtjibmhmaoegcnaaDoor
open Go.ChangeShapes Go.WideShapes Go.ChangeAt Go.RowKit Go.Deep
set_option linter.unusedVariables false
set_option maxRecDepth 100000 in
theorem ack_in {H : Type} {enc : TypeId × Value → H} {w : World} {r : Reach} {b0 : Nat} {sp : Nat → Bool} {held : Bool} {base : Nat} {v : Value} {d : DataW H} {p : List MemPlace} (hval : Value.okWide Tryd.prog w r b0 27 v) (h : DataW.Trod enc Tryd.prog w base sp held 27 v d p) :
    ∃ a : Ack, (a.ch.length = 32 ∧ a.ints) ∧ v = .agg a.cells.toArray := by
  obtain ⟨cs, rfl, _⟩ := okWide_struct Tryd.underlying27 hval
  obtain ⟨fuel, hf⟩ := h
  obtain ⟨a, ha, e⟩ := trod_ack hf
  exact ⟨a, ha, by rw [← e]; simp [Value.cells]⟩
set_option maxRecDepth 100000 in
theorem mem_in {H : Type} {enc : TypeId × Value → H} {w : World} {r : Reach} {b0 : Nat} {sp : Nat → Bool} {held : Bool} {base : Nat} {v : Value} {d : DataW H} {p : List MemPlace} (hval : Value.okWide Tryd.prog w r b0 47 v) (h : DataW.Trod enc Tryd.prog w base sp held 47 v d p) :
    ∃ m : Mem, (i64ok m.d ∧ i64ok m.since ∧ i64ok m.ver) ∧ v = .agg m.cells.toArray := by
  obtain ⟨cs, rfl, _⟩ := okWide_struct Tryd.underlying47 hval
  obtain ⟨fuel, hf⟩ := h
  obtain ⟨a, ha, e⟩ := trod_member hf
  exact ⟨a, ha, by rw [← e]; simp [Value.cells]⟩
theorem InRow.src {α : Type} {f : α → List Value} {size : Nat} {w : World} {v : Value} {l : List α} (h : InRow f w v l) (hf : (l.flatMap f).length = l.length * size) : ∀ W, Gr w none W → Src W v l.length size (l.flatMap f) := by
  intro W hG
  rcases h.new hG with ⟨rfl, rfl⟩ | ⟨b, o, cap, rfl, _, _, _, h5⟩
  · exact .inl ⟨rfl, rfl, rfl⟩
  · exact Src.at hf h5
set_option maxHeartbeats 2000000 in
set_option maxRecDepth 100000 in
theorem more_big (mp lp : Option Addr) (mc lc x y : Nat) (fo st : Int) (a : Ack) (m : Mem) (w : World) (hK : Laid w) (h : ¬ (x ≤ 6 ∧ y ≤ 12)) :
    Calls Tryd.prog 5 #[.slice mp x mc, .int .i64 fo, .int .i64 st, .slice lp y lc, .agg a.cells.toArray, .agg m.cells.toArray] w fun e w' => e = .returned (.bool true) ∧ Gr w none w' := by
  have hfew := decide_eq_false (show ¬ (x ≤ 6 ∧ y ≤ 12 ∧ 0 ≤ 60) from fun k => h ⟨k.1, k.2.1⟩)
  clear h
  have hG0 := ((Gr.refl w none).alloc (.cells a.cells.toArray 27)).alloc (.cells m.cells.toArray 47)
  go_enter Tryd.func5, Tryd.ntmps5
  go_upto_region 1 with fail
  change Code.wp _ _ _ _ ((w.alloc (.cells a.cells.toArray 27)).alloc (.cells m.cells.toArray 47))
  generalize ((w.alloc (.cells a.cells.toArray 27)).alloc (.cells m.cells.toArray 47)) = W at *
  go_wp2_with (first
    | (go_at_call 8; refine (sane_any W (hK.new hG0)).mono ?_; rintro e w1 ⟨rfl, hG1⟩)
    | (go_at_call 13; refine (few_any _ _ none _ _ 0 _ _ 0 w1).mono ?_; rintro e w2 ⟨rfl, hG2⟩; rw [hfew]))
  go_ret
  exact ⟨rfl, hG0.trans (hG1.trans hG2)⟩
theorem more_any {w : World} {vm vl : Value} {ms : List Mem} {l : List Ack} (fo st : Int) (a : Ack) (m : Mem) (hm : InRow Mem.cells w vm ms) (hl : InRow Ack.cells w vl l) (hK : Laid w) (hlq : ∀ a ∈ l, a.ch.length = 32 ∧ a.ints) (hmd : ∀ m ∈ ms, i64ok m.d)
    (ha : a.ch.length = 32) (hi : a.ints) (hmo : i64ok m.d) :
    Calls Tryd.prog 5 #[vm, .int .i64 fo, .int .i64 st, vl, .agg a.cells.toArray, .agg m.cells.toArray] w fun e w' => e = .returned (.bool true) ∧ Gr w none w' := by
  have hms := hm.src (flat_mems ms)
  have hls := hl.src (flat_acks l fun a h => (hlq a h).1)
  obtain ⟨mp, mb, mo, mc, rfl, hmp⟩ := hm.form
  obtain ⟨lp, lb, lo, lc, rfl, hlp⟩ := hl.form
  by_cases h : ms.length ≤ 6 ∧ l.length ≤ 12
  · exact more_walk mp lp mb mo lb lo mc lc fo st ms l a m w hK hlq h.2 h.1 hmd ha hi hmo hlp hmp hls hms
  · exact more_big mp lp mc lc _ _ fo st a m w hK h
set_option maxRecDepth 100000 in
theorem lifted_acksMore (os : Os) (started : os.Started) (H : Type) (enc : TypeId × Value → H) :
    ReturnsInHanded {} Tryd.checked os 5 .any (fun w args => (Rows.acksMoreSpec.pre enc Tryd.prog Tryd.f5 [] false w args ∧ laidMetH Tryd.prog laidList w) ∧ sizedMet enc Tryd.prog Tryd.f5 (OpenSpec.ofChange Rows.acksMoreSpec) false w args)
      (Rows.acksMoreSpec.post enc Tryd.prog Tryd.f5 false true false false) := by
  refine returnsInHanded_of_change_and (C := Tryd.checked) (X := fun w _ => laidMetH Tryd.prog laidList w) (fun _ _ _ hh h => h.of_heap hh) own started (by kernel_rfl) Tryd.func5
    (ChangeSpec.witness_shaped (enc := enc) (C := Tryd.checked) (os := os) (X := fun w _ => laidMetH Tryd.prog laidList w) false (World.doorLaid Tryd.prog 400 os) #[.slice none 0 0, .int .i64 0, .int .i64 0, .slice none 0 0, .agg zeroAck.cells.toArray, .agg (Mem.mk 0 0 0).cells.toArray] 8 rfl (World.shaped_of_RefB (by kernel_rfl) (by kernel_rfl)) (by kernel_rfl) (by kernel_rfl) (by kernel_rfl) (door_met os _)) ?_
  intro W base args ds gs before hval0 hW _ _ hL _
  have hval : ∀ (j : Nat) t v, (Tryd.f5).params[j]? = some t → args[j]? = some v → Value.okWide Tryd.prog W .any base t v := hval0
  have hW' := hW
  obtain ⟨p, q, hA0, hV, rfl, hfz, hnd⟩ := hW
  have hA : DataW.TrodAll enc Tryd.prog W 0 (fun _ => true) true (Tryd.f5).params.toList args.toList ds p := hA0
  rw [Tryd.params5] at hA hval
  obtain ⟨v0, vs0, d0, ds0, p0, q0, hargs, rfl, rfl, h0, r0⟩ := trodAll_cons hA
  obtain ⟨v1, vs1, d1, ds1, p1, q1, rfl, rfl, rfl, h1, r1⟩ := trodAll_cons r0
  obtain ⟨v2, vs2, d2, ds2, p2, q2, rfl, rfl, rfl, h2, r2⟩ := trodAll_cons r1
  obtain ⟨v3, vs3, d3, ds3, p3, q3, rfl, rfl, rfl, h3, r3⟩ := trodAll_cons r2
  obtain ⟨v4, vs4, d4, ds4, p4, q4, rfl, rfl, rfl, h4, r4⟩ := trodAll_cons r3
  obtain ⟨v5, vs5, d5, ds5, p5, q5, rfl, rfl, rfl, h5, r5⟩ := trodAll_cons r4
  obtain ⟨rfl, rfl, rfl⟩ := trodAll_nil r5
  obtain rfl : args = #[v0, v1, v2, v3, v4, v5] := by cases args; simp_all
  obtain ⟨rfl, rfl⟩ := trodVars_none hV
  have lt : ∀ {t v d p}, DataW.Trod enc Tryd.prog W 0 (fun _ => true) true t v d p → ∀ x ∈ p, x.block < W.heap.size := fun h => by obtain ⟨m, hm⟩ := h; exact DataW.trod_lt m _ _ _ hm
  obtain ⟨ms, hms, hqm⟩ := row_in (s := 3) Mem.cells (fun m => i64ok m.d ∧ i64ok m.since ∧ i64ok m.ver) Tryd.underlying37 (by kernel_rfl) (by decide) (fun n cs x hc hx => trod_member hx) (hval 0 37 v0 rfl rfl) h0
  obtain ⟨fo, rfl, rfl, rfl, w1⟩ := open_int Tryd.underlying3 (hval 1 3 v1 rfl rfl) h1
  obtain ⟨st, rfl, rfl, rfl, w2⟩ := open_int Tryd.underlying3 (hval 2 3 v2 rfl rfl) h2
  obtain ⟨l, hl, hql⟩ := row_in (s := 38) Ack.cells (fun a => a.ch.length = 32 ∧ a.ints) Tryd.underlying38 (by kernel_rfl) (by decide) (fun n cs x hc hx => trod_ack hx) (hval 3 38 v3 rfl rfl) h3
  obtain ⟨a, ha, rfl⟩ := ack_in (hval 4 27 v4 rfl rfl) h4
  obtain ⟨m, hm, rfl⟩ := mem_in (hval 5 47 v5 rfl rfl) h5
  clear hA0 hval0
  refine (more_any fo st a m hms hl (of_laid hL) hql (fun m h => (hqm m h).1) ha.1 ha.2 hm.1).mono fun e W' ⟨he, hG⟩ => ?_
  subst he
  have bel := hG.below
  exact ⟨_, rfl, _, _, _, [], _, [], hW', trodAll_mk1 (shut_bool Tryd.underlying4 _), (trodAll_cons_mk (Below.trod laidOut (by kernel_rfl) (of_decide_eq_true (by kernel_rfl)) h0 bel (lt h0)) (trodAll_cons_mk (shut_int Tryd.underlying3 w1) (trodAll_cons_mk (shut_int Tryd.underlying3 w2) (trodAll_cons_mk (Below.trod laidOut (by kernel_rfl) (of_decide_eq_true (by kernel_rfl)) h3 bel (lt h3)) (trodAll_cons_mk (Below.trod laidOut (by kernel_rfl) (of_decide_eq_true (by kernel_rfl)) h4 bel (lt h4)) (trodAll_cons_mk (Below.trod laidOut (by kernel_rfl) (of_decide_eq_true (by kernel_rfl)) h5 bel (lt h5)) trodAll_mk0)))))), rfl, bel.frame _, fun h => by cases h⟩
theorem acksMore_row : Rows.AcksMoreSaid :=
  OpenClaim.holds_of_wide 5 Tryd.f5 rfl rfl rfl rfl rfl rfl rfl ⟨rfl, rfl, rfl, rfl, rfl⟩ rfl rfl rfl rfl rfl (by kernel_rfl) Tryd.func5 (by kernel_rfl)
    (of_decide_eq_true (by kernel_rfl)) (by unfold Func.isWrapper; first | (rw [if_pos (by decide +kernel)]; kernel_rfl) | (rw [if_neg (by decide +kernel)]; exact ⟨rfl, rfl⟩))
    (fun os started H enc _ => lifted_acksMore os started H enc)
theorem acksMore_card : Rows.AcksMoreCardSaid :=
  Claim7.holds_tied_plain_at .later [] [.data, .data] true (true, "a0da19af548fc01d2ba10f022eee1b07bd49a250b478fe29e7cc8b56ecb7496b") true
    acksMore_row (fun _ h => by cases h) (by kernel_rfl) (fun _ h => by cases h) acksMore_row_tie rfl ⟨rfl, rfl⟩ (by kernel_rfl) rfl
    (fun f fn hf hfn => by
      obtain rfl : f = 5 := Option.some.inj ((show Tryd.prog.funcNamed "chartroom/chartroomlaw33.AcksMore" = some 5 by kernel_rfl).symm.trans hf) |>.symm
      obtain rfl : fn = Tryd.f5 := (Option.some.inj (Tryd.func5.symm.trans hfn)).symm
      exact ⟨by kernel_rfl, fun j t ht => by
        rw [Tryd.params5] at ht
        have hm : t ∈ [37, 3, 3, 38, 27, 47] := by simpa using Array.mem_of_getElem? ht
        have hall : ([37, 3, 3, 38, 27, 47].all fun u => !Tryd.prog.wantsStandIn u) = true := by kernel_rfl
        exact (show Tryd.prog.wantsStandIn t = false by simpa using List.all_eq_true.1 hall t hm)⟩)
    (by kernel_rfl)
#print axioms acksMore_card
end Go.Proofs.YtjibmhmaoegcnaaDoor
