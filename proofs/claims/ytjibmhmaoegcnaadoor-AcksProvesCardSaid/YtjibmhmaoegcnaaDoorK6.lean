/- Parts of a proof, joined by program: Verify, Alg, SignIt, Ack, Ack2, Encode. -/
import Derived.Test.YtjibmhmaoegcnaaDoorK5
import Derived.Deep.RegionHeld3
import Derived.Deep.DrawnRows
import Derived.Deep.DeepCutAuto
import Derived.Deep.CutBlock
import Derived.Deep.RegionWith
namespace Go.Proofs.YtjibmhmaoegcnaaDoor
open Go.RowKit Go.Shelf
set_option linter.unusedVariables false
attribute [local go_sem ↓] Go.wp_at_zero Go.wp_at_succ
/-- A key that may sign. -/
def ValidK (x : Int) : Prop := 1 ≤ x ∧ x < 2305843009213688669
instance (x : Int) : Decidable (ValidK x) := by unfold ValidK; infer_instance
set_option maxHeartbeats 1000000 in
theorem valid_any (x : Int) (w : World) :
    Calls Tryd.prog 42 #[.int .i64 x] w fun e w' => e = .returned (.bool (decide (ValidK x))) ∧ w' = w := by
  by_cases h1 : x < 1
  · have e1 : decide (x ≥ 1) = false := decide_eq_false (by omega)
    rw [show decide (ValidK x) = false from decide_eq_false (fun h => by have := h.1; omega)]
    clear h1
    go_enter Tryd.func42, Tryd.ntmps42
    go_wp2
    go_ret
    exact ⟨rfl, rfl⟩
  · have e1 : decide (x ≥ 1) = true := decide_eq_true (by omega)
    by_cases h2 : x < 2305843009213688669
    · have e3 : decide (x < 2305843009213688669) = true := decide_eq_true h2
      rw [show decide (ValidK x) = true from decide_eq_true ⟨by omega, h2⟩]
      clear h1 h2
      go_enter Tryd.func42, Tryd.ntmps42
      go_wp2
      go_ret
      exact ⟨rfl, rfl⟩
    · have e3 : decide (x < 2305843009213688669) = false := decide_eq_false h2
      rw [show decide (ValidK x) = false from decide_eq_false (fun h => h2 h.2)]
      clear h1 h2
      go_enter Tryd.func42, Tryd.ntmps42
      go_wp2
      go_ret
      exact ⟨rfl, rfl⟩
theorem public_any (x : Int) (w : World) :
    Calls Tryd.prog 43 #[.int .i64 x] w fun e w' => e = .returned (.int .i64 (expV 4 x).1) ∧ Gr w none w' := by
  go_enter Tryd.func43, Tryd.ntmps43
  go_wp2_with (go_at_call 38; refine (base_any _ _).mono ?_; rintro e w' ⟨rfl, hG⟩)
  go_ret
  exact ⟨rfl, hG⟩
theorem publicOf_any (x : Int) (w : World) :
    Calls Tryd.prog 20 #[.int .i64 x] w fun e w' => e = .returned (.tuple #[.int .i64 (if ValidK x then (expV 4 x).1 else 0), .int .i64 (if ValidK x then 0 else 50)]) ∧ Gr w none w' := by
  by_cases h : ValidK x
  · have e1 : decide (ValidK x) = true := decide_eq_true h
    simp only [if_pos h]; clear h
    go_enter Tryd.func20, Tryd.ntmps20
    go_wp2_with (first
      | (go_at_call 42; refine (valid_any _ _).mono ?_; rintro e w' ⟨rfl, rfl⟩; rw [e1])
      | (go_at_call 43; refine (public_any _ _).mono ?_; rintro e w' ⟨rfl, hG⟩))
    go_ret2
    exact ⟨rfl, hG⟩
  · have e1 : decide (ValidK x) = false := decide_eq_false h
    simp only [if_neg h]; clear h
    go_enter Tryd.func20, Tryd.ntmps20
    go_wp2_with (go_at_call 42; refine (valid_any _ _).mono ?_; rintro e w' ⟨rfl, rfl⟩; rw [e1])
    go_ret2
    exact ⟨rfl, Gr.refl _ _⟩
theorem Gr.cell' {w w' : World} (h : Gr w none w') {a : Addr} {v : Value} (hc : w.cell? a = some v) : w'.cell? a = some v := h.cell hc (by simp)
/-- While the three tests run: the signature lies in its block, whatever came meanwhile. -/
structure VS (w : World) (R S : Int) (w' : World) : Prop where
  gr : Gr w none w'
  blk : Blk w' w.heap.size 25 [.int .i64 R, .int .i64 S]
section
variable {w w' w'' : World} {R S : Int}
theorem VS.drew (h : VS w R S w') : VS w R S w'.drew := ⟨h.gr.drew, h.blk⟩
/-- The block of the three tests, made and not yet written. -/
structure ZF (w w' : World) (g : Nat) : Prop where
  ge : w.heap.size ≤ g
  blk : Blk w' g 84 [.int .i64 0, .int .i64 0, .int .i64 0]
theorem ZF.new (h : VS w R S (w'.alloc (.cells #[.int .i64 0, .int .i64 0, .int .i64 0] 84))) (k : Gr (w'.alloc (.cells #[.int .i64 0, .int .i64 0, .int .i64 0] 84)) none w'') : ZF w w'' w'.heap.size := by
  refine ⟨?_, (Blk.new w' _ [.int .i64 0, .int .i64 0, .int .i64 0]).grown k (by simp)⟩
  have := h.blk.lt
  rw [World.size_alloc] at this
  omega
theorem ZF.newD (h : VS w R S (w'.drew.alloc (.cells #[.int .i64 0, .int .i64 0, .int .i64 0] 84))) (k : Gr (w'.drew.alloc (.cells #[.int .i64 0, .int .i64 0, .int .i64 0] 84)) none w'') : ZF w w'' w'.heap.size := ZF.new (w' := w'.drew) h k
theorem ZF.call {g : Nat} (h : ZF w w' g) (k : Gr w' none w'') : ZF w w'' g := ⟨h.ge, h.blk.grown k (by simp)⟩
theorem ZF.facts {g : Nat} (h : ZF w w' g) : w'.cell? ⟨g, 0, none⟩ = some (.int .i64 0) ∧ w'.cell? ⟨g, 1, none⟩ = some (.int .i64 0) ∧ w'.cell? ⟨g, 2, none⟩ = some (.int .i64 0) ∧ w'.frozen? ⟨g, 0, none⟩ = false ∧ w'.frozen? ⟨g, 1, none⟩ = false ∧ w'.frozen? ⟨g, 2, none⟩ = false :=
  ⟨h.blk.cell? 0, h.blk.cell? 1, h.blk.cell? 2, h.blk.free 0, h.blk.free 1, h.blk.free 2⟩
theorem ZF.ne {g : Nat} (z : ZF w w' g) (h : VS w R S w') : g ≠ w.heap.size := by
  intro e
  have hb := h.blk; have hz := z.blk
  unfold Blk at hb hz
  rw [e, hb] at hz
  cases hz
theorem VS.put {g : Nat} (h : VS w R S w') (z : ZF w w' g) (v0 v1 v2 : Value) : VS w R S (((w'.setCell ⟨g, 0, none⟩ v0).setCell ⟨g, 1, none⟩ v1).setCell ⟨g, 2, none⟩ v2) :=
  ⟨((h.gr.setCell (.inl z.ge) _).setCell (.inl z.ge) _).setCell (.inl z.ge) _, ((h.blk.other (Ne.symm (z.ne h)) _).other (Ne.symm (z.ne h)) _).other (Ne.symm (z.ne h)) _⟩
theorem VS.alloc (h : VS w R S w') (o : Obj) : VS w R S (w'.alloc o) := ⟨h.gr.alloc o, h.blk.alloc o⟩
theorem VS.call (h : VS w R S w') (k : Gr w' none w'') : VS w R S w'' := ⟨h.gr.trans k, h.blk.grown k (by simp)⟩
theorem VS.swap {cs : Array Value} (h : VS w R S (w'.alloc (.cells cs 84))) (o2 : Obj) : VS w R S (w'.alloc o2) := by
  have hs := h.gr.size
  rw [World.size_alloc] at hs
  have hlt : w.heap.size < w'.heap.size := by
    rcases Nat.lt_or_ge w.heap.size w'.heap.size with k | k
    · exact k
    · exfalso
      have hb := h.blk
      have hsz := hb.lt
      rw [World.size_alloc] at hsz
      have e : w.heap.size = w'.heap.size := by omega
      unfold Blk at hb
      rw [e, World.alloc_heap_new] at hb
      cases hb
  refine ⟨⟨h.gr.os, h.gr.tape, h.gr.output, by rw [World.size_alloc]; omega, fun k hk hne => ?_⟩, ?_⟩
  · rw [← h.gr.block k hk hne]
    show (w'.heap.push o2)[k]? = (w'.heap.push _)[k]?
    rw [Array.getElem?_push, Array.getElem?_push, if_neg (by omega), if_neg (by omega)]
  · have hb := h.blk
    unfold Blk at hb ⊢
    rw [← hb]
    show (w'.heap.push o2)[w.heap.size]? = (w'.heap.push _)[w.heap.size]?
    rw [Array.getElem?_push, Array.getElem?_push, if_neg (by omega), if_neg (by omega)]
theorem VS.all (h : VS w R S w') : w'.cell? ⟨w.heap.size, 0, none⟩ = some (.int .i64 R) ∧ w'.cell? ⟨w.heap.size, 1, none⟩ = some (.int .i64 S) ∧ VS w R S w' := ⟨h.blk.cell? 0, h.blk.cell? 1, h⟩
end
theorem hash2_any (s : ByteArray) (v : Value) (l : List UInt8) (a b : Int) (w : World) (hs : s.size ≤ 1000) (hl : l.length ≤ 800000) (hv : Bytes w v l) (hK : Laid w)
    (ha : a = (a.toNat : Int)) (hb : b = (b.toNat : Int)) (ha2 : a.toNat < 9223372036854775808) (hb2 : b.toNat < 9223372036854775808) :
    Calls Tryd.prog 40 #[.string s, v, .slice (some ⟨w.heap.size, 0, none⟩) 2 2] (w.alloc (.cells #[.int .i64 a, .int .i64 b] 3)) fun e w' => e = .returned (.int .i64 (scalarN s.data.toList ([a.toNat, b.toNat].flatMap be8 ++ l))) ∧ Gr w none w' := by
  have hg : Gr w none (w.alloc (.cells #[.int .i64 a, .int .i64 b] 3)) := (Gr.refl w none).alloc _
  refine (hash_any s v l w.heap.size 2 [a.toNat, b.toNat] _ hs hl (hv.new hg) (hK.new hg) ?_ (by simp) (by simp) ?_).mono ?_
  · have := at_new w [.int .i64 a, .int .i64 b] 3
    simp only [List.map_cons, List.map_nil, ← ha, ← hb]
    exact this
  · intro x hx
    simp only [List.mem_cons, List.not_mem_nil, or_false] at hx
    rcases hx with rfl | rfl
    · exact ha2
    · exact hb2
  · rintro e w' ⟨rfl, h⟩
    exact ⟨rfl, hg.trans h⟩
theorem arr3_eqD (d : Nat) (a b c : Int) (w : World) : (Op.equalIn (d + 1 + 1) 84 (.agg #[.int .i64 a, .int .i64 b, .int .i64 c]) (.agg #[.int .i64 0, .int .i64 0, .int .i64 0])).run Tryd.prog w = .ok (decide (a = 0 ∧ b = 0 ∧ c = 0)) w := by
  have hs : (sizeOf 30).run Tryd.prog w = .ok 1 w := by kernel_rfl
  have hu : Tryd.prog.underlying 30 = some (.int .i64) := by kernel_rfl
  have ha : (isAgg 30).run Tryd.prog w = .ok false w := by kernel_rfl
  have hp : ∀ (cs : Array Value) (i : Nat) (v : Value), cs[i]? = some v → (part 30 cs i).run Tryd.prog w = .ok v w := by
    intro cs i v hv
    simp [part, ha, hv]
  have e : ∀ x : Int, (Op.equalIn (d + 1) 30 (.int .i64 x) (.int .i64 0)).run Tryd.prog w = .ok (x == 0) w := fun x => run_equalIn_int w d _ .i64 .i64 x 0 hu
  have q0 : ∀ (x y z : Value), (part 30 #[x, y, z] 0).run Tryd.prog w = .ok x w := fun x y z => hp _ _ _ rfl
  have q1 : ∀ (x y z : Value), (part 30 #[x, y, z] 1).run Tryd.prog w = .ok y w := fun x y z => hp _ _ _ rfl
  have q2 : ∀ (x y z : Value), (part 30 #[x, y, z] 2).run Tryd.prog w = .ok z w := fun x y z => hp _ _ _ rfl
  generalize hd : d + 1 = D at e ⊢
  rw [Op.equalIn]
  simp only [Sem.run_bind, run_underlying Tryd.underlying84, Result.andThen_ok, hs]
  by_cases h1 : a = 0 <;> by_cases h2 : b = 0 <;> by_cases h3 : c = 0 <;>
    simp [Std.Legacy.Range.forIn_eq_forIn_range', List.range', q0, q1, q2, e, h1, h2, h3]
theorem elemErr_zero (x : Int) : elemErr x = 0 ↔ InG x := by
  unfold elemErr; split
  · simp [*]
  · simp [*]
theorem fieldErr_zero (x : Int) : fieldErr x = 0 ↔ InF x := by
  unfold fieldErr; split
  · simp [*]
  · simp [*]
theorem tests_eq (a b c : Int) (w : World) : (Op.equalIn 10000 84 (.agg #[.int .i64 (elemErr a), .int .i64 (elemErr b), .int .i64 (fieldErr c)]) (.agg #[.int .i64 0, .int .i64 0, .int .i64 0])).run Tryd.prog w = .ok (decide (InG a ∧ InG b ∧ InF c)) w := by
  have h := arr3_eqD 9998 (elemErr a) (elemErr b) (fieldErr c) w
  simp only [elemErr_zero, fieldErr_zero] at h
  exact h
/-- The bytes of 'sign'. -/
def signTag : List UInt8 := [115, 105, 103, 110]
/-- What Verify answers. -/
def verifyB (pub : Int) (l : List UInt8) (R S : Int) : Bool :=
  decide (InG pub ∧ InG R ∧ InF S) && ((expV 4 S).1 == (mulV R (expV pub (scalarN signTag ([R.toNat, pub.toNat].flatMap be8 ++ l))).1).1)
set_option maxHeartbeats 4000000 in
set_option maxRecDepth 100000 in
theorem verify_any (pub R S : Int) (v : Value) (l : List UInt8) (w : World) (hl : l.length ≤ 800000) (hv : Bytes w v l) (hK : Laid w) :
    Calls Tryd.prog 18 #[.int .i64 pub, v, .agg #[.int .i64 R, .int .i64 S]] w fun e w' => e = .returned (.bool (verifyB pub l R S)) ∧ Gr w none w' := by
  go_enter Tryd.func18, Tryd.ntmps18
  go_upto_region 1 with fail
  have hB0 := Blk.new w 25 [.int .i64 R, .int .i64 S]
  have hG0 : Gr w none (w.alloc (.cells #[.int .i64 R, .int .i64 S] 25)) := (Gr.refl _ _).alloc _
  change Code.wp _ _ _ _ (w.alloc (.cells #[.int .i64 R, .int .i64 S] 25))
  have hc0 := hB0.cell? 0
  have hc1 := hB0.cell? 1
  simp only [List.getElem?_cons_zero, List.getElem?_cons_succ] at hc0 hc1
  generalize hW : (w.alloc (.cells #[.int .i64 R, .int .i64 S] 25)) = W at *
  have hVS : VS w R S W := ⟨hG0, hB0⟩
  clear hG0 hB0
  go_cut [7] (fun p wx => ∃ g, p = .pointer (some ⟨g, 0, none⟩) ∧ Blk wx g 84 [.int .i64 (elemErr pub), .int .i64 (elemErr R), .int .i64 (fieldErr S)] ∧ VS w R S wx)
  case first =>
    go_region_held3 (fun w' => w'.cell? ⟨w.heap.size, 0, none⟩ = some (.int .i64 R) ∧ w'.cell? ⟨w.heap.size, 1, none⟩ = some (.int .i64 S) ∧ VS w R S w') (((try go_split_ands); refine VS.all ?_; first | assumption | exact VS.drew (by assumption) | exact VS.alloc (by assumption) _ | exact VS.call (by assumption) (by assumption) | exact VS.swap (by assumption) _ | exact VS.put (by assumption) (by assumption) _ _ _))
      (first
        | (go_at_call 36; refine (groupCheck_any _ _).mono ?_; rintro e w' ⟨rfl, hG'⟩; (try go_split_ands); (first | (have hz := ZF.newD (by assumption) hG'; have z0 := (ZF.facts hz).1; have z1 := (ZF.facts hz).2.1; have z2 := (ZF.facts hz).2.2.1; have f0 := (ZF.facts hz).2.2.2.1; have f1 := (ZF.facts hz).2.2.2.2.1; have f2 := (ZF.facts hz).2.2.2.2.2) | (have hz := ZF.new (by assumption) hG'; have z0 := (ZF.facts hz).1; have z1 := (ZF.facts hz).2.1; have z2 := (ZF.facts hz).2.2.1; have f0 := (ZF.facts hz).2.2.2.1; have f1 := (ZF.facts hz).2.2.2.2.1; have f2 := (ZF.facts hz).2.2.2.2.2) | (have hz := ZF.call (by assumption) hG'; have z0 := (ZF.facts hz).1; have z1 := (ZF.facts hz).2.1; have z2 := (ZF.facts hz).2.2.1; have f0 := (ZF.facts hz).2.2.2.1; have f1 := (ZF.facts hz).2.2.2.2.1; have f2 := (ZF.facts hz).2.2.2.2.2) | skip))
        | (go_at_call 37; refine (fieldCheck_any _ _).mono ?_; rintro e w' ⟨rfl, hG'⟩; (try go_split_ands); (first | (have hz := ZF.newD (by assumption) hG'; have z0 := (ZF.facts hz).1; have z1 := (ZF.facts hz).2.1; have z2 := (ZF.facts hz).2.2.1; have f0 := (ZF.facts hz).2.2.2.1; have f1 := (ZF.facts hz).2.2.2.2.1; have f2 := (ZF.facts hz).2.2.2.2.2) | (have hz := ZF.new (by assumption) hG'; have z0 := (ZF.facts hz).1; have z1 := (ZF.facts hz).2.1; have z2 := (ZF.facts hz).2.2.1; have f0 := (ZF.facts hz).2.2.2.1; have f1 := (ZF.facts hz).2.2.2.2.1; have f2 := (ZF.facts hz).2.2.2.2.2) | (have hz := ZF.call (by assumption) hG'; have z0 := (ZF.facts hz).1; have z1 := (ZF.facts hz).2.1; have z2 := (ZF.facts hz).2.2.1; have f0 := (ZF.facts hz).2.2.2.1; have f1 := (ZF.facts hz).2.2.2.2.1; have f2 := (ZF.facts hz).2.2.2.2.2) | skip)))
    all_goals go_wp2_with fail
    all_goals go_meet
    all_goals go_split_ands
    all_goals first
      | exact ⟨_, rfl, Blk.new _ _ [.int .i64 (elemErr pub), .int .i64 (elemErr R), .int .i64 (fieldErr S)], by assumption⟩
      | exact ⟨_, rfl, (((ZF.blk (by assumption)).set 0 _).set 1 _).set 2 _, by assumption⟩
      | skip
    all_goals go_show
  case rest =>
    obtain ⟨g, rfl, hBg, hV2⟩ := hcut
    clear hVS hc0 hc1
    have hq := fun w => tests_eq pub R S w
    by_cases hok : InG pub ∧ InG R ∧ InF S
    · have hd : decide (InG pub ∧ InG R ∧ InF S) = true := decide_eq_true hok
      rw [hd] at hq
      obtain ⟨hR, hS, _⟩ := hV2.all
      have hG := hV2.gr
      have hp1 : (pub : Int) = ((pub.toNat : Nat) : Int) := by have := hok.1.1; omega
      have hr1 : (R : Int) = ((R.toNat : Nat) : Int) := by have := hok.2.1.1; omega
      have HP := Lib.hid (show pub.toNat < 9223372036854775808 by have := hok.1.2.1; omega)
      have HR := Lib.hid (show R.toNat < 9223372036854775808 by have := hok.2.1.2.1; omega)
      have HP1 := Lib.hid hp1; have HR1 := Lib.hid hr1; clear hp1 hr1
      have HD := Lib.hid hd; have HO := Lib.hid hok; clear hd hok
      go_wp2_with (first
        | (refine wl_load_blk rfl _ _ rfl g _ _ _ hBg rfl Tryd.underlying84 rfl (by kernel_rfl) ?_)
        | (go_at_call 38; refine (base_any S _).mono ?_; rintro e w1 ⟨rfl, hG1⟩; have hR1 := Gr.cell' hG1 hR)
        | (go_at_call 40; refine (hash2_any _ v l R pub w1 (by decide) hl (hv.new (hG.trans hG1)) (hK.new (hG.trans hG1)) HR1.out HP1.out HR.out HP.out).mono ?_; rintro e w2 ⟨rfl, hG2⟩; have hR2 := Gr.cell' hG2 hR1)
        | (go_at_call 39; refine (exp_any pub _ _).mono ?_; rintro e w3 ⟨rfl, hG3⟩; have hR3 := Gr.cell' hG3 hR2)
        | (go_at_call 41; refine (mul_any R _ _).mono ?_; rintro e w4 ⟨rfl, hG4⟩))
      go_ret
      exact ⟨by unfold verifyB; rw [HD.out, Bool.true_and]; rfl, ((hG.trans (hG1.trans hG2)).trans hG3).trans hG4⟩
    · have hd : decide (InG pub ∧ InG R ∧ InF S) = false := decide_eq_false hok
      rw [hd] at hq
      have hvb : verifyB pub l R S = false := by unfold verifyB; rw [hd, Bool.false_and]
      clear hok hd
      have hG := hV2.gr
      go_wp2_with (refine wl_load_blk rfl _ _ rfl g _ _ _ hBg rfl Tryd.underlying84 rfl (by kernel_rfl) ?_)
      go_ret
      exact ⟨by rw [hvb]; rfl, hG⟩
end Go.Proofs.YtjibmhmaoegcnaaDoor
namespace Go.Proofs.YtjibmhmaoegcnaaDoor
set_option linter.unusedVariables false
theorem powP_pw (a k : Nat) (hk : k < 18446744073709551616) : powP a k = pw a (upto (bitF k) (Lib.bitLen k)) := by
  have h := pw_pow a k hk _ (Nat.le_refl _)
  rw [Nat.sub_self, Nat.pow_zero, Nat.div_one] at h
  rw [powP_eq, h]
theorem pw4_Q : pw 4 (upto (bitF 2305843009213688669) (Lib.bitLen 2305843009213688669)) = 1 := by decide +kernel
theorem powP_4 : powP 4 2305843009213688669 = 1 := (powP_pw 4 _ (by decide)).trans pw4_Q
theorem powP_add (a i j : Nat) : powP a (i + j) = powP a i * powP a j % 4611686018427377339 := by
  rw [powP_eq, powP_eq, powP_eq, Nat.pow_add, Nat.mul_mod]
theorem powP_pow (a i j : Nat) : powP (powP a i) j = powP a (i * j) := by
  rw [powP_eq, powP_eq, powP_eq, Nat.pow_mul, ← Nat.pow_mod]
theorem powP_one (j : Nat) : powP 1 j = 1 := by rw [powP_eq, Nat.one_pow]
theorem powP_zero (a : Nat) : powP a 0 = 1 := by rw [powP_eq, Nat.pow_zero]
theorem powP_mod (a q k : Nat) (h : powP a q = 1) : powP a (k % q) = powP a k := by
  have e := Nat.div_add_mod k q
  have h2 : powP a k = powP a (q * (k / q) + k % q) := by rw [e]
  rw [h2, powP_add, ← powP_pow, h, powP_one, Nat.one_mul, Nat.mod_eq_of_lt (powP_lt a _)]
theorem powP_null (q : Nat) (hq : 0 < q) : powP 0 q = 0 := by rw [powP_eq, Nat.zero_pow hq, Nat.zero_mod]
theorem inG_pow (a k : Nat) (h : powP a 2305843009213688669 = 1) : InG (powP a k : Nat) := by
  have h1 : powP (powP a k) 2305843009213688669 = 1 := by
    rw [powP_pow, Nat.mul_comm, ← powP_pow, h, powP_one]
  refine ⟨?_, by have := powP_lt a k; omega, by rw [Int.toNat_natCast]; exact h1⟩
  have hne : powP a k ≠ 0 := by
    intro e
    rw [e, powP_null _ (by decide)] at h1
    cases h1
  omega
theorem inG_4 : InG 4 := ⟨by decide, by decide, powP_4⟩
theorem expV_4 (n : Nat) (h : n < 2305843009213688669) : expV 4 n = (((powP 4 n : Nat) : Int), 0) := by
  unfold expV
  rw [if_pos inG_4, if_pos ⟨by omega, by omega⟩, Int.toNat_natCast]
  rfl
theorem expV_nat (a n : Nat) (h : n < 2305843009213688669) (ha : InG (a : Int)) : expV a n = (((powP a n : Nat) : Int), 0) := by
  unfold expV
  rw [if_pos ha, if_pos ⟨by omega, by omega⟩, Int.toNat_natCast, Int.toNat_natCast]
/-- The equation of the signatures. -/
theorem sign_law (x k h : Nat) (hh : h < 2305843009213688669) :
    powP 4 ((k + h * x) % 2305843009213688669) = powP 4 k * powP (powP 4 x) h % 4611686018427377339 := by
  rw [powP_mod _ _ _ powP_4, powP_add, powP_pow, Nat.mul_comm h x]
end Go.Proofs.YtjibmhmaoegcnaaDoor
namespace Go.Proofs.YtjibmhmaoegcnaaDoor
open Go.RowKit Go.Shelf
set_option linter.unusedVariables false
attribute [local go_sem ↓] Go.wp_at_zero Go.wp_at_succ
/-- The bytes of 'nonce'. -/
def nonceTag : List UInt8 := [110, 111, 110, 99, 101]
theorem hash1_any (s : ByteArray) (v : Value) (l : List UInt8) (a : Int) (w : World) (hs : s.size ≤ 1000) (hl : l.length ≤ 800000) (hv : Bytes w v l) (hK : Laid w)
    (ha : a = (a.toNat : Int)) (ha2 : a.toNat < 9223372036854775808) :
    Calls Tryd.prog 40 #[.string s, v, .slice (some ⟨w.heap.size, 0, none⟩) 1 1] (w.alloc (.cells #[.int .i64 a] 3)) fun e w' => e = .returned (.int .i64 (scalarN s.data.toList ([a.toNat].flatMap be8 ++ l))) ∧ Gr w none w' := by
  have hg : Gr w none (w.alloc (.cells #[.int .i64 a] 3)) := (Gr.refl w none).alloc _
  refine (hash_any s v l w.heap.size 1 [a.toNat] _ hs hl (hv.new hg) (hK.new hg) ?_ (by simp) (by simp) ?_).mono ?_
  · have := at_new w [.int .i64 a] 3
    simp only [List.map_cons, List.map_nil, ← ha]
    exact this
  · intro x hx
    simp only [List.mem_cons, List.not_mem_nil, or_false] at hx
    rw [hx]; exact ha2
  · rintro e w' ⟨rfl, h⟩
    exact ⟨rfl, hg.trans h⟩
theorem VS.one {w w' : World} {R S : Int} (h : VS w R S w') : w'.cell? ⟨w.heap.size, 0, none⟩ = some (.int .i64 R) ∧ VS w R S w' := ⟨h.blk.cell? 0, h⟩
theorem results_row_tmp {P : Program} {fn : Func} {p u : Tmp} {ty : TypeId} (h : fn.results = #[.cell p ty, .tmp u]) (tmps : Array Value) (w : World) (g : Nat) (t : TypeId) (cs : Array Value) (fr : Nat × Nat) (d : TypeDesc)
    (hp : tmps.getD p undef = .pointer (some ⟨g, 0, none⟩)) (hg : w.heap[g]? = some (.cells cs t fr))
    (hu : P.underlying ty = some d) (hd : (match d with | .struct _ | .array _ _ => true | _ => false) = true) (hi : (P.info? ty).map (·.size) = some cs.size) :
    (results fn tmps).run P w = .ok (.tuple #[.agg cs, tmps.getD u undef]) w := by
  have hp' : tmps[p]?.getD undef = .pointer (some ⟨g, 0, none⟩) := by simpa using hp
  simp [results, h, hp', asAddr, run_loadVar_row w g t ty cs fr d hg hu hd hi, Result.andThen]
set_option maxHeartbeats 4000000 in
set_option maxRecDepth 100000 in
theorem sign_bad (x : Int) (v : Value) (w : World) (hx : ¬ ValidK x) :
    Calls Tryd.prog 44 #[.int .i64 x, v] w fun e w' => e = .returned (.tuple #[.agg #[.int .i64 0, .int .i64 0], .int .i64 50]) ∧ Gr w none w' := by
  have hd : decide (ValidK x) = false := decide_eq_false hx
  go_enter Tryd.func44, Tryd.ntmps44
  go_upto_region 4 with (refine (valid_any x _).mono ?_; rintro e w' ⟨rfl, rfl⟩; rw [hd])
  go_wp2
  refine bodyPost_ret (results_row_tmp rfl _ _ w.heap.size 25 #[.int .i64 0, .int .i64 0] (0, 0) _ rfl (World.alloc_heap_new w _) Tryd.underlying25 rfl (by kernel_rfl)) rfl ⟨rfl, (Gr.refl w none).alloc _⟩
/-- The nonce, and the second half of a signature. -/
def signK (x : Nat) (l : List UInt8) : Nat := scalarN nonceTag ([x].flatMap be8 ++ l)
def signS (x : Nat) (l : List UInt8) : Nat := (signK x l + scalarN signTag (be8 (powP 4 (signK x l)) ++ (be8 (powP 4 x) ++ l)) * x) % 2305843009213688669
theorem fMulV_nat (a b : Nat) (ha : a < 2305843009213688669) (hb : b < 2305843009213688669) : fMulV a b = (((a * b % 2305843009213688669 : Nat) : Int), 0) := by
  unfold fMulV
  rw [if_pos ⟨⟨by omega, by omega⟩, by omega, by omega⟩, Int.toNat_natCast, Int.toNat_natCast]
theorem fAddV_nat (a b : Nat) (ha : a < 2305843009213688669) (hb : b < 2305843009213688669) : fAddV a b = ((((a + b) % 2305843009213688669 : Nat) : Int), 0) := by
  unfold fAddV
  rw [if_pos ⟨⟨by omega, by omega⟩, by omega, by omega⟩, Int.toNat_natCast, Int.toNat_natCast]
set_option maxHeartbeats 400000 in
set_option maxRecDepth 100000 in
theorem sign_good (x : Nat) (v : Value) (l : List UInt8) (w : World) (hx : ValidK x) (hl : l.length ≤ 800000) (hv : Bytes w v l) (hK : Laid w) :
    Calls Tryd.prog 44 #[.int .i64 x, v] w fun e w' => e = .returned (.tuple #[.agg #[.int .i64 (powP 4 (signK x l) : Nat), .int .i64 (signS x l)], .int .i64 0]) ∧ Gr w none w' := by
  have hd : decide (ValidK x) = true := decide_eq_true hx
  have HX := Lib.hid (show x < 2305843009213688669 by have := hx.2; omega)
  clear hx
  go_enter Tryd.func44, Tryd.ntmps44
  go_upto_region 5 with (refine (valid_any x _).mono ?_; rintro e w' ⟨rfl, rfl⟩; rw [hd])
  have hB0 := Blk.new w 25 [.int .i64 0, .int .i64 0]
  have hG0 : Gr w none (w.alloc (.cells #[.int .i64 0, .int .i64 0] 25)) := (Gr.refl _ _).alloc _
  change Code.wp _ _ _ _ (w.alloc (.cells #[.int .i64 0, .int .i64 0] 25))
  generalize (w.alloc (.cells #[.int .i64 0, .int .i64 0] 25)) = W at *
  go_wp2_with fail
  refine (hash1_any _ v l x W (by decide) hl (hv.new hG0) (hK.new hG0) (by simp) (by rw [Int.toNat_natCast]; exact Nat.lt_trans HX.out (by decide))).mono ?_
  rintro e w2 ⟨rfl, hG2⟩
  rw [Int.toNat_natCast]
  obtain ⟨k, hk⟩ : ∃ k, k = scalarN nonceTag ([x].flatMap be8 ++ l) := ⟨_, rfl⟩
  have HKL := Lib.hid (show k < 2305843009213688669 by rw [hk]; exact scalarN_lt _ _)
  rw [show scalarN (ByteArray.mk #[110, 111, 110, 99, 101]).data.toList ([x].flatMap be8 ++ l) = k from hk.symm]
  have HKE := Lib.hid hk; clear hk
  have hB2 := hB0.grown hG2 (by simp)
  have hG02 := hG0.trans hG2
  have hbc := expV_4 k HKL.out
  go_upto_region 7 with (go_at_call 38; refine (base_any _ _).mono ?_; rintro e w3 ⟨rfl, hG3⟩; rw [hbc]; have hB3 := hB2.grown hG3 (by simp); have c0 := hB3.cell? 0; have c1 := hB3.cell? 1; have f0 := hB3.free 0; have f1 := hB3.free 1)
  have hB4 := hB3.set 0 (.int .i64 ((powP 4 k : Nat) : Int))
  have hV4 : VS w (powP 4 k : Nat) 0 (w3.setCell ⟨w.heap.size, 0, none⟩ (.int .i64 ((powP 4 k : Nat) : Int))) := ⟨(hG02.trans hG3).setCell (.inl (Nat.le_refl _)) _, hB4⟩
  obtain ⟨hR4, _, _⟩ := hV4.all
  clear hB3 hB4 c0 c1 f0 f1
  obtain ⟨r, hr⟩ : ∃ r, r = powP 4 k := ⟨_, rfl⟩
  have HR := Lib.hid (show r < 9223372036854775808 by rw [hr]; exact Nat.lt_trans (powP_lt 4 k) (by decide))
  rw [← hr] at hV4 hR4 ⊢
  have HRE := Lib.hid hr; clear hr
  generalize (w3.setCell ⟨w.heap.size, 0, none⟩ (.int .i64 (r : Int))) = W4 at *
  have hpx := expV_4 x HX.out
  obtain ⟨p, hp⟩ : ∃ p, p = powP 4 x := ⟨_, rfl⟩
  have HP := Lib.hid (show p < 9223372036854775808 by rw [hp]; exact Nat.lt_trans (powP_lt 4 x) (by decide))
  rw [← hp] at hpx
  have HPE := Lib.hid hp; clear hp
  go_region_held3 (fun w' => w'.cell? ⟨w.heap.size, 0, none⟩ = some (.int .i64 (r : Int)) ∧ VS w (r : Int) 0 w') (((try go_split_ands); refine VS.one ?_; first | assumption | exact VS.drew (by assumption) | exact VS.alloc (by assumption) _ | exact VS.call (by assumption) (by assumption)))
    (first
      | (go_at_call 40; refine (hash2_any _ v l (r : Int) (p : Int) _ (by decide) hl (hv.new (hV4.drew.call hG').gr) (hK.new (hV4.drew.call hG').gr) (by simp) (by simp) (by rw [Int.toNat_natCast]; exact HR.out) (by rw [Int.toNat_natCast]; exact HP.out)).mono ?_; rintro e w' ⟨rfl, hG''⟩; have hVh := (hV4.drew.call hG').call hG'')
      | (go_at_call 70; refine (fieldMul_any _ _ _).mono ?_; rintro e w' ⟨rfl, hG3'⟩)
      | (refine (public_any (x : Int) _).mono ?_; rintro e w' ⟨rfl, hG'⟩; rw [hpx]))
  obtain ⟨h, hh⟩ : ∃ h, h = scalarN signTag (be8 r ++ (be8 p ++ l)) := ⟨_, rfl⟩
  have HH := Lib.hid (show h < 2305843009213688669 by rw [hh]; exact scalarN_lt _ _)
  rw [show scalarN [115, 105, 103, 110] (be8 r ++ (be8 p ++ l)) = h from hh.symm]
  have HHE := Lib.hid hh; clear hh
  have hm := fMulV_nat h x HH.out HX.out
  have HM := Lib.hid (Nat.mod_lt (h * x) (show 0 < 2305843009213688669 by decide))
  obtain ⟨m, hme⟩ : ∃ m, m = h * x % 2305843009213688669 := ⟨_, rfl⟩
  rw [← hme] at hm HM
  have HME := Lib.hid hme; clear hme
  have ha := fAddV_nat k m HKL.out HM.out
  rw [hm]
  go_split_ands
  rename_i hVz
  have hBz := hVz.blk
  have hGz := hVz.gr
  go_wp2_with (go_at_call 71; refine (fieldAdd_any _ _ _).mono ?_; rintro e w9 ⟨rfl, hG9⟩; rw [ha]; have hB9 := hBz.grown hG9 (by simp); have c0 := hB9.cell? 0; have c1 := hB9.cell? 1; have f0 := hB9.free 0; have f1 := hB9.free 1)
  have e0 : signK x l = k := HKE.out.symm
  have e1 : powP 4 (signK x l) = r := by rw [e0]; exact HRE.out.symm
  have e2 : ((signS x l : Nat) : Int) = ((k : Int) + m) % 2305843009213688669 := by
    unfold signS
    rw [e1, e0, ← HPE.out, ← HHE.out]
    have := HME.out
    omega
  have hBF := ((hB9.set 1 (.int .i64 (((k : Int) + m) % 2305843009213688669))).set 0 (.int .i64 (r : Int))).set 1 (.int .i64 (((k : Int) + m) % 2305843009213688669))
  refine bodyPost_ret (results_row_tmp rfl _ _ w.heap.size 25 #[.int .i64 (r : Int), .int .i64 (((k : Int) + m) % 2305843009213688669)] (0, 0) _ rfl hBF Tryd.underlying25 rfl (by kernel_rfl)) rfl ⟨?_, (((hGz.trans hG9).setCell (.inl (Nat.le_refl _)) _).setCell (.inl (Nat.le_refl _)) _).setCell (.inl (Nat.le_refl _)) _⟩
  rw [e1, e2]
  rfl
/-- What Sign makes, Verify accepts. -/
theorem sign_verifies (x : Nat) (l : List UInt8) (hx : x < 2305843009213688669) : verifyB (powP 4 x : Nat) l (powP 4 (signK x l) : Nat) (signS x l) = true := by
  have hK : signK x l < 2305843009213688669 := scalarN_lt _ _
  have hS : signS x l < 2305843009213688669 := Nat.mod_lt _ (by decide)
  have hp := inG_pow 4 x powP_4
  have hr := inG_pow 4 (signK x l) powP_4
  have hf : InF (signS x l : Nat) := ⟨by omega, by omega⟩
  have hh : scalarN signTag ([powP 4 (signK x l), powP 4 x].flatMap be8 ++ l) < 2305843009213688669 := scalarN_lt _ _
  unfold verifyB
  rw [decide_eq_true ⟨hp, hr, hf⟩, Bool.true_and, expV_4 _ hS, Int.toNat_natCast, Int.toNat_natCast]
  have hE := expV_nat (powP 4 x) (scalarN signTag ([powP 4 (signK x l), powP 4 x].flatMap be8 ++ l)) hh hp
  rw [hE]
  have hge : InG (powP (powP 4 x) (scalarN signTag ([powP 4 (signK x l), powP 4 x].flatMap be8 ++ l)) : Nat) := inG_pow _ _ hp.2.2
  unfold mulV
  rw [if_pos ⟨hr, hge⟩, Int.toNat_natCast, Int.toNat_natCast, ← sign_law x (signK x l) _ hh]
  have e : signS x l = (signK x l + scalarN signTag ([powP 4 (signK x l), powP 4 x].flatMap be8 ++ l) * x) % 2305843009213688669 := by
    unfold signS
    simp only [List.flatMap_cons, List.flatMap_nil, List.append_nil, List.append_assoc]
  rw [← e]
  exact beq_self_eq_true _
end Go.Proofs.YtjibmhmaoegcnaaDoor
namespace Go.Proofs.YtjibmhmaoegcnaaDoor
open Go.RowKit Go.Shelf
set_option linter.unusedVariables false
attribute [local go_sem ↓] Go.wp_at_zero Go.wp_at_succ
/-- An acknowledgement. -/
structure Ack where
  f : Int
  d : Int
  s : Int
  u : Int
  ch : List UInt8
  r : Int
  g : Int
/-- Its 38 cells. -/
def Ack.cells (a : Ack) : List Value := .int .i64 a.f :: .int .i64 a.d :: .int .i64 a.s :: .int .i64 a.u :: (a.ch.map B8 ++ [.int .i64 a.r, .int .i64 a.g])
theorem Ack.cells_length (a : Ack) (h : a.ch.length = 32) : a.cells.length = 38 := by simp [Ack.cells, h]
theorem Ack.cells_one (a : Ack) : ∀ v ∈ a.cells, v.oneCell' = true := by
  intro v hv
  simp only [Ack.cells, List.mem_cons, List.mem_append, List.mem_map, List.not_mem_nil, or_false] at hv
  rcases hv with rfl | rfl | rfl | rfl | ⟨x, _, rfl⟩ | rfl | rfl <;> rfl
theorem Ack.c36 (a : Ack) (h : a.ch.length = 32) : a.cells[36]? = some (.int .i64 a.r) := by
  simp [Ack.cells, h]
theorem Ack.c37 (a : Ack) (h : a.ch.length = 32) : a.cells[37]? = some (.int .i64 a.g) := by
  simp [Ack.cells, h]
/-- Is each number of a row within 0 and less than its bound, by twos? -/
def validB : List Int → Bool
  | x :: y :: l => decide (0 ≤ x) && decide (x < y) && validB l
  | _ => true
def I64 (x : Int) : Value := .int .i64 x
set_option maxHeartbeats 1000000 in
set_option maxRecDepth 100000 in
theorem valid8_any (b : Nat) (x0 y0 x1 y1 x2 y2 x3 y3 : Int) (w : World) (hA : At w b 0 [.int .i64 x0, .int .i64 y0, .int .i64 x1, .int .i64 y1, .int .i64 x2, .int .i64 y2, .int .i64 x3, .int .i64 y3]) :
    Calls Tryd.prog 46 #[.slice (some ⟨b, 0, none⟩) 8 8] w fun e w' => e = .returned (.bool (validB [x0, y0, x1, y1, x2, y2, x3, y3])) ∧ Gr w none w' := by
  go_enter Tryd.func46, Tryd.ntmps46
  go_wp2
  go_loopw [3] (fun i wr => ∃ (m : Nat) (l : List Int), m ≤ 8 ∧ m % 2 = 0 ∧ i = .int .i64 m ∧ l.length = 8 - m ∧ At wr b m (l.map I64) ∧ Gr w none wr ∧ validB [x0, y0, x1, y1, x2, y2, x3, y3] = validB l) (fun i _ => (8 - intOf i).toNat)
  case atStart => exact ⟨0, [x0, y0, x1, y1, x2, y2, x3, y3], by omega, rfl, rfl, rfl, hA, Gr.refl _ _, rfl⟩
  case round =>
    obtain ⟨m, l, hm, hm2, rfl, hl, hA', hG, hv⟩ := hrel
    match l, hl with
    | [], hl =>
      obtain rfl : m = 8 := by simp at hl; omega
      go_wp2
      go_ret
      exact ⟨rfl, hG⟩
    | [x], hl => simp at hl; omega
    | x :: y :: l, hl =>
      have hm4 : m < 8 := by simp at hl; omega
      have c0 : wr.cell? ⟨b, m, none⟩ = some (.int .i64 x) := hA' 0 (by simp)
      have c1 : wr.cell? ⟨b, m + 1, none⟩ = some (.int .i64 y) := hA' 1 (by simp)
      have b0 : (0 : Int) ≤ (m : Int) := by omega
      have b1 : (m : Int) < 8 := by omega
      have b2 : (m : Int) + 1 < 8 := by omega
      have b3 : (0 : Int) ≤ (m : Int) + 1 := by omega
      have b4 : IntKind.i64.wrap ((m : Int) + 1) = m + 1 := by rw [IntKind.wrap_i64]; omega
      by_cases hx : x < 0
      · have hvF : validB (x :: y :: l) = false := by simp [validB]; intro h; omega
        go_upto_region 4 with fail
        refine wp_region_held (S := fun w' => w'.cell? ⟨b, m, none⟩ = some (.int .i64 x) ∧ w'.cell? ⟨b, m + 1, none⟩ = some (.int .i64 y)) (by kernel_rfl) ?_
        change wpAnyH _ _ _ _ _ _ _ _ (World.drew _)
        have hS : (fun w' : World => w'.cell? ⟨b, m, none⟩ = some (.int .i64 x) ∧ w'.cell? ⟨b, m + 1, none⟩ = some (.int .i64 y)) (World.drew wr) := ⟨c0, c1⟩
        refine wpAnyH_take (i := 0) (oi := { dst := some 11, op := _, type := _, pos := _, after := _, guard := none }) (v := ?v1) rfl (by kernel_rfl) (by kernel_rfl) (by kernel_rfl) (fun _ _ _ h => h) (Or.inl ⟨by rfl, ?h1⟩) hS ?r1
        case h1 => intro w2 hw2; obtain ⟨s0, s1⟩ := hw2; go_simp; try with_reducible rfl
        simp only [Act.put, List.setIfInBounds_toArray, List.set_cons_zero, List.set_cons_succ]
        refine wpAnyH_take (i := 1) (oi := { dst := some 12, op := _, type := _, pos := _, after := _, guard := none }) (v := ?v2) rfl (by kernel_rfl) (by kernel_rfl) (by kernel_rfl) (fun _ _ _ h => h) (Or.inl ⟨by rfl, ?h2⟩) hS ?r2
        case h2 => intro w2 hw2; obtain ⟨s0, s1⟩ := hw2; go_simp; try with_reducible rfl
        simp only [Act.put, List.setIfInBounds_toArray, List.set_cons_zero, List.set_cons_succ]
        refine wpAnyH_take (i := 2) (oi := { dst := some 13, op := _, type := _, pos := _, after := _, guard := none }) (v := ?v3) rfl (by kernel_rfl) (by kernel_rfl) (by kernel_rfl) (fun _ _ _ h => h) (Or.inl ⟨by rfl, ?h3⟩) hS ?r3
        case h3 => intro w2 hw2; obtain ⟨s0, s1⟩ := hw2; go_simp; try with_reducible rfl
        simp only [Act.put, List.setIfInBounds_toArray, List.set_cons_zero, List.set_cons_succ]
        refine wpAnyH_take (i := 3) (oi := { dst := some 14, op := _, type := _, pos := _, after := _, guard := none }) (v := ?v4) rfl (by kernel_rfl) (by kernel_rfl) (by kernel_rfl) (fun _ _ _ h => h) (Or.inl ⟨by rfl, ?h4⟩) hS ?r4
        case h4 => intro w2 hw2; obtain ⟨s0, s1⟩ := hw2; go_simp; try with_reducible rfl
        simp only [Act.put, List.setIfInBounds_toArray, List.set_cons_zero, List.set_cons_succ]
        refine wpAnyH_take (i := 4) (oi := { dst := some 15, op := _, type := _, pos := _, after := _, guard := none }) (v := ?v5) rfl (by kernel_rfl) (by kernel_rfl) (by kernel_rfl) (fun _ _ _ h => h) (Or.inl ⟨by rfl, ?h5⟩) hS ?r5
        case h5 => intro w2 hw2; obtain ⟨s0, s1⟩ := hw2; go_simp; try with_reducible rfl
        simp only [Act.put, List.setIfInBounds_toArray, List.set_cons_zero, List.set_cons_succ]
        refine wpAnyH_take (i := 5) (oi := { dst := some 16, op := _, type := _, pos := _, after := _, guard := none }) (v := ?v6) rfl (by kernel_rfl) (by kernel_rfl) (by kernel_rfl) (fun _ _ _ h => h) (Or.inl ⟨by rfl, ?h6⟩) hS ?r6
        case h6 => intro w2 hw2; obtain ⟨s0, s1⟩ := hw2; go_simp; try with_reducible rfl
        simp only [Act.put, List.setIfInBounds_toArray, List.set_cons_zero, List.set_cons_succ]
        refine wpAnyH_take (i := 6) (oi := { dst := some 17, op := _, type := _, pos := _, after := _, guard := some (5, false) }) (v := undef) rfl (by kernel_rfl) (by kernel_rfl) (by kernel_rfl) (fun _ _ _ h => h) (Or.inr ⟨by rfl, rfl⟩) hS ?r7
        simp only [Act.put, List.setIfInBounds_toArray, List.set_cons_zero, List.set_cons_succ]
        refine wpAnyH_take (i := 7) (oi := { dst := some 18, op := _, type := _, pos := _, after := _, guard := some (5, false) }) (v := undef) rfl (by kernel_rfl) (by kernel_rfl) (by kernel_rfl) (fun _ _ _ h => h) (Or.inr ⟨by rfl, rfl⟩) hS ?r8
        simp only [Act.put, List.setIfInBounds_toArray, List.set_cons_zero, List.set_cons_succ]
        refine wpAnyH_take (i := 8) (oi := { dst := some 19, op := _, type := _, pos := _, after := _, guard := some (5, false) }) (v := undef) rfl (by kernel_rfl) (by kernel_rfl) (by kernel_rfl) (fun _ _ _ h => h) (Or.inr ⟨by rfl, rfl⟩) hS ?r9
        simp only [Act.put, List.setIfInBounds_toArray, List.set_cons_zero, List.set_cons_succ]
        refine wpAnyH_take (i := 9) (oi := { dst := some 20, op := _, type := _, pos := _, after := _, guard := some (5, false) }) (v := undef) rfl (by kernel_rfl) (by kernel_rfl) (by kernel_rfl) (fun _ _ _ h => h) (Or.inr ⟨by rfl, rfl⟩) hS ?r10
        simp only [Act.put, List.setIfInBounds_toArray, List.set_cons_zero, List.set_cons_succ]
        refine wpAnyH_take (i := 10) (oi := { dst := some 21, op := _, type := _, pos := _, after := _, guard := some (5, false) }) (v := undef) rfl (by kernel_rfl) (by kernel_rfl) (by kernel_rfl) (fun _ _ _ h => h) (Or.inr ⟨by rfl, rfl⟩) hS ?r11
        simp only [Act.put, List.setIfInBounds_toArray, List.set_cons_zero, List.set_cons_succ]
        refine wpAnyH_take (i := 11) (oi := { dst := some 22, op := _, type := _, pos := _, after := _, guard := some (5, false) }) (v := undef) rfl (by kernel_rfl) (by kernel_rfl) (by kernel_rfl) (fun _ _ _ h => h) (Or.inr ⟨by rfl, rfl⟩) hS ?r12
        simp only [Act.put, List.setIfInBounds_toArray, List.set_cons_zero, List.set_cons_succ]
        refine wpAnyH_take (i := 12) (oi := { dst := some 23, op := _, type := _, pos := _, after := _, guard := some (5, false) }) (v := undef) rfl (by kernel_rfl) (by kernel_rfl) (by kernel_rfl) (fun _ _ _ h => h) (Or.inr ⟨by rfl, rfl⟩) hS ?r13
        simp only [Act.put, List.setIfInBounds_toArray, List.set_cons_zero, List.set_cons_succ]
        refine wpAnyH_take (i := 13) (oi := { dst := some 24, op := _, type := _, pos := _, after := _, guard := some (5, false) }) (v := undef) rfl (by kernel_rfl) (by kernel_rfl) (by kernel_rfl) (fun _ _ _ h => h) (Or.inr ⟨by rfl, rfl⟩) hS ?r14
        simp only [Act.put, List.setIfInBounds_toArray, List.set_cons_zero, List.set_cons_succ]
        refine wpAnyH_take (i := 14) (oi := { dst := some 25, op := _, type := _, pos := _, after := _, guard := some (5, false) }) (v := undef) rfl (by kernel_rfl) (by kernel_rfl) (by kernel_rfl) (fun _ _ _ h => h) (Or.inr ⟨by rfl, rfl⟩) hS ?r15
        simp only [Act.put, List.setIfInBounds_toArray, List.set_cons_zero, List.set_cons_succ]
        refine wpAnyH_take (i := 15) (oi := { dst := some 26, op := _, type := _, pos := _, after := _, guard := some (5, false) }) (v := undef) rfl (by kernel_rfl) (by kernel_rfl) (by kernel_rfl) (fun _ _ _ h => h) (Or.inr ⟨by rfl, rfl⟩) hS ?r16
        simp only [Act.put, List.setIfInBounds_toArray, List.set_cons_zero, List.set_cons_succ]
        refine wpAnyH_take (i := 16) (oi := { dst := some 27, op := _, type := _, pos := _, after := _, guard := none }) (v := ?v17) rfl (by kernel_rfl) (by kernel_rfl) (by kernel_rfl) (fun _ _ _ h => h) (Or.inl ⟨by rfl, ?h17⟩) hS ?r17
        case h17 => intro w2 hw2; obtain ⟨s0, s1⟩ := hw2; go_simp; try with_reducible rfl
        simp only [Act.put, List.setIfInBounds_toArray, List.set_cons_zero, List.set_cons_succ]
        refine wpAnyH_done (by kernel_rfl) ?_ _
        go_wp2
        go_ret
        exact ⟨rfl, hG.drew⟩
      · have x0' : ¬ x < 0 := hx
        by_cases hy : x < y
        · have hvF : validB (x :: y :: l) = validB l := by simp [validB]; intro h; omega
          have y0 : ¬ y ≤ x := by omega
          go_upto_region 4 with fail
          refine wp_region_held (S := fun w' => w'.cell? ⟨b, m, none⟩ = some (.int .i64 x) ∧ w'.cell? ⟨b, m + 1, none⟩ = some (.int .i64 y)) (by kernel_rfl) ?_
          change wpAnyH _ _ _ _ _ _ _ _ (World.drew _)
          have hS : (fun w' : World => w'.cell? ⟨b, m, none⟩ = some (.int .i64 x) ∧ w'.cell? ⟨b, m + 1, none⟩ = some (.int .i64 y)) (World.drew wr) := ⟨c0, c1⟩
          refine wpAnyH_take (i := 0) (oi := { dst := some 11, op := _, type := _, pos := _, after := _, guard := none }) (v := ?v18) rfl (by kernel_rfl) (by kernel_rfl) (by kernel_rfl) (fun _ _ _ h => h) (Or.inl ⟨by rfl, ?h18⟩) hS ?r18
          case h18 => intro w2 hw2; obtain ⟨s0, s1⟩ := hw2; go_simp; try with_reducible rfl
          simp only [Act.put, List.setIfInBounds_toArray, List.set_cons_zero, List.set_cons_succ]
          refine wpAnyH_take (i := 1) (oi := { dst := some 12, op := _, type := _, pos := _, after := _, guard := none }) (v := ?v19) rfl (by kernel_rfl) (by kernel_rfl) (by kernel_rfl) (fun _ _ _ h => h) (Or.inl ⟨by rfl, ?h19⟩) hS ?r19
          case h19 => intro w2 hw2; obtain ⟨s0, s1⟩ := hw2; go_simp; try with_reducible rfl
          simp only [Act.put, List.setIfInBounds_toArray, List.set_cons_zero, List.set_cons_succ]
          refine wpAnyH_take (i := 2) (oi := { dst := some 13, op := _, type := _, pos := _, after := _, guard := none }) (v := ?v20) rfl (by kernel_rfl) (by kernel_rfl) (by kernel_rfl) (fun _ _ _ h => h) (Or.inl ⟨by rfl, ?h20⟩) hS ?r20
          case h20 => intro w2 hw2; obtain ⟨s0, s1⟩ := hw2; go_simp; try with_reducible rfl
          simp only [Act.put, List.setIfInBounds_toArray, List.set_cons_zero, List.set_cons_succ]
          refine wpAnyH_take (i := 3) (oi := { dst := some 14, op := _, type := _, pos := _, after := _, guard := none }) (v := ?v21) rfl (by kernel_rfl) (by kernel_rfl) (by kernel_rfl) (fun _ _ _ h => h) (Or.inl ⟨by rfl, ?h21⟩) hS ?r21
          case h21 => intro w2 hw2; obtain ⟨s0, s1⟩ := hw2; go_simp; try with_reducible rfl
          simp only [Act.put, List.setIfInBounds_toArray, List.set_cons_zero, List.set_cons_succ]
          refine wpAnyH_take (i := 4) (oi := { dst := some 15, op := _, type := _, pos := _, after := _, guard := none }) (v := ?v22) rfl (by kernel_rfl) (by kernel_rfl) (by kernel_rfl) (fun _ _ _ h => h) (Or.inl ⟨by rfl, ?h22⟩) hS ?r22
          case h22 => intro w2 hw2; obtain ⟨s0, s1⟩ := hw2; go_simp; try with_reducible rfl
          simp only [Act.put, List.setIfInBounds_toArray, List.set_cons_zero, List.set_cons_succ]
          refine wpAnyH_take (i := 5) (oi := { dst := some 16, op := _, type := _, pos := _, after := _, guard := none }) (v := ?v23) rfl (by kernel_rfl) (by kernel_rfl) (by kernel_rfl) (fun _ _ _ h => h) (Or.inl ⟨by rfl, ?h23⟩) hS ?r23
          case h23 => intro w2 hw2; obtain ⟨s0, s1⟩ := hw2; go_simp; try with_reducible rfl
          simp only [Act.put, List.setIfInBounds_toArray, List.set_cons_zero, List.set_cons_succ]
          refine wpAnyH_take (i := 6) (oi := { dst := some 17, op := _, type := _, pos := _, after := _, guard := some (5, false) }) (v := ?v24) rfl (by kernel_rfl) (by kernel_rfl) (by kernel_rfl) (fun _ _ _ h => h) (Or.inl ⟨by rfl, ?h24⟩) hS ?r24
          case h24 => intro w2 hw2; obtain ⟨s0, s1⟩ := hw2; go_simp; try with_reducible rfl
          simp only [Act.put, List.setIfInBounds_toArray, List.set_cons_zero, List.set_cons_succ]
          refine wpAnyH_take (i := 7) (oi := { dst := some 18, op := _, type := _, pos := _, after := _, guard := some (5, false) }) (v := ?v25) rfl (by kernel_rfl) (by kernel_rfl) (by kernel_rfl) (fun _ _ _ h => h) (Or.inl ⟨by rfl, ?h25⟩) hS ?r25
          case h25 => intro w2 hw2; obtain ⟨s0, s1⟩ := hw2; go_simp; try with_reducible rfl
          simp only [Act.put, List.setIfInBounds_toArray, List.set_cons_zero, List.set_cons_succ]
          refine wpAnyH_take (i := 8) (oi := { dst := some 19, op := _, type := _, pos := _, after := _, guard := some (5, false) }) (v := ?v26) rfl (by kernel_rfl) (by kernel_rfl) (by kernel_rfl) (fun _ _ _ h => h) (Or.inl ⟨by rfl, ?h26⟩) hS ?r26
          case h26 => intro w2 hw2; obtain ⟨s0, s1⟩ := hw2; go_simp; try with_reducible rfl
          simp only [Act.put, List.setIfInBounds_toArray, List.set_cons_zero, List.set_cons_succ]
          refine wpAnyH_take (i := 9) (oi := { dst := some 20, op := _, type := _, pos := _, after := _, guard := some (5, false) }) (v := ?v27) rfl (by kernel_rfl) (by kernel_rfl) (by kernel_rfl) (fun _ _ _ h => h) (Or.inl ⟨by rfl, ?h27⟩) hS ?r27
          case h27 => intro w2 hw2; obtain ⟨s0, s1⟩ := hw2; go_simp; try with_reducible rfl
          simp only [Act.put, List.setIfInBounds_toArray, List.set_cons_zero, List.set_cons_succ]
          refine wpAnyH_take (i := 10) (oi := { dst := some 21, op := _, type := _, pos := _, after := _, guard := some (5, false) }) (v := ?v28) rfl (by kernel_rfl) (by kernel_rfl) (by kernel_rfl) (fun _ _ _ h => h) (Or.inl ⟨by rfl, ?h28⟩) hS ?r28
          case h28 => intro w2 hw2; obtain ⟨s0, s1⟩ := hw2; go_simp; try with_reducible rfl
          simp only [Act.put, List.setIfInBounds_toArray, List.set_cons_zero, List.set_cons_succ]
          refine wpAnyH_take (i := 11) (oi := { dst := some 22, op := _, type := _, pos := _, after := _, guard := some (5, false) }) (v := ?v29) rfl (by kernel_rfl) (by kernel_rfl) (by kernel_rfl) (fun _ _ _ h => h) (Or.inl ⟨by rfl, ?h29⟩) hS ?r29
          case h29 => intro w2 hw2; obtain ⟨s0, s1⟩ := hw2; go_simp; try with_reducible rfl
          simp only [Act.put, List.setIfInBounds_toArray, List.set_cons_zero, List.set_cons_succ]
          refine wpAnyH_take (i := 12) (oi := { dst := some 23, op := _, type := _, pos := _, after := _, guard := some (5, false) }) (v := ?v30) rfl (by kernel_rfl) (by kernel_rfl) (by kernel_rfl) (fun _ _ _ h => h) (Or.inl ⟨by rfl, ?h30⟩) hS ?r30
          case h30 => intro w2 hw2; obtain ⟨s0, s1⟩ := hw2; go_simp; try with_reducible rfl
          simp only [Act.put, List.setIfInBounds_toArray, List.set_cons_zero, List.set_cons_succ]
          refine wpAnyH_take (i := 13) (oi := { dst := some 24, op := _, type := _, pos := _, after := _, guard := some (5, false) }) (v := ?v31) rfl (by kernel_rfl) (by kernel_rfl) (by kernel_rfl) (fun _ _ _ h => h) (Or.inl ⟨by rfl, ?h31⟩) hS ?r31
          case h31 => intro w2 hw2; obtain ⟨s0, s1⟩ := hw2; go_simp; try with_reducible rfl
          simp only [Act.put, List.setIfInBounds_toArray, List.set_cons_zero, List.set_cons_succ]
          refine wpAnyH_take (i := 14) (oi := { dst := some 25, op := _, type := _, pos := _, after := _, guard := some (5, false) }) (v := ?v32) rfl (by kernel_rfl) (by kernel_rfl) (by kernel_rfl) (fun _ _ _ h => h) (Or.inl ⟨by rfl, ?h32⟩) hS ?r32
          case h32 => intro w2 hw2; obtain ⟨s0, s1⟩ := hw2; go_simp; try with_reducible rfl
          simp only [Act.put, List.setIfInBounds_toArray, List.set_cons_zero, List.set_cons_succ]
          refine wpAnyH_take (i := 15) (oi := { dst := some 26, op := _, type := _, pos := _, after := _, guard := some (5, false) }) (v := ?v33) rfl (by kernel_rfl) (by kernel_rfl) (by kernel_rfl) (fun _ _ _ h => h) (Or.inl ⟨by rfl, ?h33⟩) hS ?r33
          case h33 => intro w2 hw2; obtain ⟨s0, s1⟩ := hw2; go_simp; try with_reducible rfl
          simp only [Act.put, List.setIfInBounds_toArray, List.set_cons_zero, List.set_cons_succ]
          refine wpAnyH_take (i := 16) (oi := { dst := some 27, op := _, type := _, pos := _, after := _, guard := none }) (v := ?v34) rfl (by kernel_rfl) (by kernel_rfl) (by kernel_rfl) (fun _ _ _ h => h) (Or.inl ⟨by rfl, ?h34⟩) hS ?r34
          case h34 => intro w2 hw2; obtain ⟨s0, s1⟩ := hw2; go_simp; try with_reducible rfl
          simp only [Act.put, List.setIfInBounds_toArray, List.set_cons_zero, List.set_cons_succ]
          refine wpAnyH_done (by kernel_rfl) ?_ _
          go_wp2
          go_roundw
          case rel => exact ⟨m + 2, l, by omega, by omega, int_eq (by omega), by simp at hl; omega, fun i hi => by have := hA' (i + 2) (by simpa using hi); rw [show m + (i + 2) = m + 2 + i by omega] at this; simpa using this, hG.drew, by rw [hv, hvF]⟩
          case measure => simp [intOf]; omega
        · have hvF : validB (x :: y :: l) = false := by simp [validB]; intro h; omega
          have y0 : y ≤ x := by omega
          go_upto_region 4 with fail
          refine wp_region_held (S := fun w' => w'.cell? ⟨b, m, none⟩ = some (.int .i64 x) ∧ w'.cell? ⟨b, m + 1, none⟩ = some (.int .i64 y)) (by kernel_rfl) ?_
          change wpAnyH _ _ _ _ _ _ _ _ (World.drew _)
          have hS : (fun w' : World => w'.cell? ⟨b, m, none⟩ = some (.int .i64 x) ∧ w'.cell? ⟨b, m + 1, none⟩ = some (.int .i64 y)) (World.drew wr) := ⟨c0, c1⟩
          refine wpAnyH_take (i := 0) (oi := { dst := some 11, op := _, type := _, pos := _, after := _, guard := none }) (v := ?v35) rfl (by kernel_rfl) (by kernel_rfl) (by kernel_rfl) (fun _ _ _ h => h) (Or.inl ⟨by rfl, ?h35⟩) hS ?r35
          case h35 => intro w2 hw2; obtain ⟨s0, s1⟩ := hw2; go_simp; try with_reducible rfl
          simp only [Act.put, List.setIfInBounds_toArray, List.set_cons_zero, List.set_cons_succ]
          refine wpAnyH_take (i := 1) (oi := { dst := some 12, op := _, type := _, pos := _, after := _, guard := none }) (v := ?v36) rfl (by kernel_rfl) (by kernel_rfl) (by kernel_rfl) (fun _ _ _ h => h) (Or.inl ⟨by rfl, ?h36⟩) hS ?r36
          case h36 => intro w2 hw2; obtain ⟨s0, s1⟩ := hw2; go_simp; try with_reducible rfl
          simp only [Act.put, List.setIfInBounds_toArray, List.set_cons_zero, List.set_cons_succ]
          refine wpAnyH_take (i := 2) (oi := { dst := some 13, op := _, type := _, pos := _, after := _, guard := none }) (v := ?v37) rfl (by kernel_rfl) (by kernel_rfl) (by kernel_rfl) (fun _ _ _ h => h) (Or.inl ⟨by rfl, ?h37⟩) hS ?r37
          case h37 => intro w2 hw2; obtain ⟨s0, s1⟩ := hw2; go_simp; try with_reducible rfl
          simp only [Act.put, List.setIfInBounds_toArray, List.set_cons_zero, List.set_cons_succ]
          refine wpAnyH_take (i := 3) (oi := { dst := some 14, op := _, type := _, pos := _, after := _, guard := none }) (v := ?v38) rfl (by kernel_rfl) (by kernel_rfl) (by kernel_rfl) (fun _ _ _ h => h) (Or.inl ⟨by rfl, ?h38⟩) hS ?r38
          case h38 => intro w2 hw2; obtain ⟨s0, s1⟩ := hw2; go_simp; try with_reducible rfl
          simp only [Act.put, List.setIfInBounds_toArray, List.set_cons_zero, List.set_cons_succ]
          refine wpAnyH_take (i := 4) (oi := { dst := some 15, op := _, type := _, pos := _, after := _, guard := none }) (v := ?v39) rfl (by kernel_rfl) (by kernel_rfl) (by kernel_rfl) (fun _ _ _ h => h) (Or.inl ⟨by rfl, ?h39⟩) hS ?r39
          case h39 => intro w2 hw2; obtain ⟨s0, s1⟩ := hw2; go_simp; try with_reducible rfl
          simp only [Act.put, List.setIfInBounds_toArray, List.set_cons_zero, List.set_cons_succ]
          refine wpAnyH_take (i := 5) (oi := { dst := some 16, op := _, type := _, pos := _, after := _, guard := none }) (v := ?v40) rfl (by kernel_rfl) (by kernel_rfl) (by kernel_rfl) (fun _ _ _ h => h) (Or.inl ⟨by rfl, ?h40⟩) hS ?r40
          case h40 => intro w2 hw2; obtain ⟨s0, s1⟩ := hw2; go_simp; try with_reducible rfl
          simp only [Act.put, List.setIfInBounds_toArray, List.set_cons_zero, List.set_cons_succ]
          refine wpAnyH_take (i := 6) (oi := { dst := some 17, op := _, type := _, pos := _, after := _, guard := some (5, false) }) (v := ?v41) rfl (by kernel_rfl) (by kernel_rfl) (by kernel_rfl) (fun _ _ _ h => h) (Or.inl ⟨by rfl, ?h41⟩) hS ?r41
          case h41 => intro w2 hw2; obtain ⟨s0, s1⟩ := hw2; go_simp; try with_reducible rfl
          simp only [Act.put, List.setIfInBounds_toArray, List.set_cons_zero, List.set_cons_succ]
          refine wpAnyH_take (i := 7) (oi := { dst := some 18, op := _, type := _, pos := _, after := _, guard := some (5, false) }) (v := ?v42) rfl (by kernel_rfl) (by kernel_rfl) (by kernel_rfl) (fun _ _ _ h => h) (Or.inl ⟨by rfl, ?h42⟩) hS ?r42
          case h42 => intro w2 hw2; obtain ⟨s0, s1⟩ := hw2; go_simp; try with_reducible rfl
          simp only [Act.put, List.setIfInBounds_toArray, List.set_cons_zero, List.set_cons_succ]
          refine wpAnyH_take (i := 8) (oi := { dst := some 19, op := _, type := _, pos := _, after := _, guard := some (5, false) }) (v := ?v43) rfl (by kernel_rfl) (by kernel_rfl) (by kernel_rfl) (fun _ _ _ h => h) (Or.inl ⟨by rfl, ?h43⟩) hS ?r43
          case h43 => intro w2 hw2; obtain ⟨s0, s1⟩ := hw2; go_simp; try with_reducible rfl
          simp only [Act.put, List.setIfInBounds_toArray, List.set_cons_zero, List.set_cons_succ]
          refine wpAnyH_take (i := 9) (oi := { dst := some 20, op := _, type := _, pos := _, after := _, guard := some (5, false) }) (v := ?v44) rfl (by kernel_rfl) (by kernel_rfl) (by kernel_rfl) (fun _ _ _ h => h) (Or.inl ⟨by rfl, ?h44⟩) hS ?r44
          case h44 => intro w2 hw2; obtain ⟨s0, s1⟩ := hw2; go_simp; try with_reducible rfl
          simp only [Act.put, List.setIfInBounds_toArray, List.set_cons_zero, List.set_cons_succ]
          refine wpAnyH_take (i := 10) (oi := { dst := some 21, op := _, type := _, pos := _, after := _, guard := some (5, false) }) (v := ?v45) rfl (by kernel_rfl) (by kernel_rfl) (by kernel_rfl) (fun _ _ _ h => h) (Or.inl ⟨by rfl, ?h45⟩) hS ?r45
          case h45 => intro w2 hw2; obtain ⟨s0, s1⟩ := hw2; go_simp; try with_reducible rfl
          simp only [Act.put, List.setIfInBounds_toArray, List.set_cons_zero, List.set_cons_succ]
          refine wpAnyH_take (i := 11) (oi := { dst := some 22, op := _, type := _, pos := _, after := _, guard := some (5, false) }) (v := ?v46) rfl (by kernel_rfl) (by kernel_rfl) (by kernel_rfl) (fun _ _ _ h => h) (Or.inl ⟨by rfl, ?h46⟩) hS ?r46
          case h46 => intro w2 hw2; obtain ⟨s0, s1⟩ := hw2; go_simp; try with_reducible rfl
          simp only [Act.put, List.setIfInBounds_toArray, List.set_cons_zero, List.set_cons_succ]
          refine wpAnyH_take (i := 12) (oi := { dst := some 23, op := _, type := _, pos := _, after := _, guard := some (5, false) }) (v := ?v47) rfl (by kernel_rfl) (by kernel_rfl) (by kernel_rfl) (fun _ _ _ h => h) (Or.inl ⟨by rfl, ?h47⟩) hS ?r47
          case h47 => intro w2 hw2; obtain ⟨s0, s1⟩ := hw2; go_simp; try with_reducible rfl
          simp only [Act.put, List.setIfInBounds_toArray, List.set_cons_zero, List.set_cons_succ]
          refine wpAnyH_take (i := 13) (oi := { dst := some 24, op := _, type := _, pos := _, after := _, guard := some (5, false) }) (v := ?v48) rfl (by kernel_rfl) (by kernel_rfl) (by kernel_rfl) (fun _ _ _ h => h) (Or.inl ⟨by rfl, ?h48⟩) hS ?r48
          case h48 => intro w2 hw2; obtain ⟨s0, s1⟩ := hw2; go_simp; try with_reducible rfl
          simp only [Act.put, List.setIfInBounds_toArray, List.set_cons_zero, List.set_cons_succ]
          refine wpAnyH_take (i := 14) (oi := { dst := some 25, op := _, type := _, pos := _, after := _, guard := some (5, false) }) (v := ?v49) rfl (by kernel_rfl) (by kernel_rfl) (by kernel_rfl) (fun _ _ _ h => h) (Or.inl ⟨by rfl, ?h49⟩) hS ?r49
          case h49 => intro w2 hw2; obtain ⟨s0, s1⟩ := hw2; go_simp; try with_reducible rfl
          simp only [Act.put, List.setIfInBounds_toArray, List.set_cons_zero, List.set_cons_succ]
          refine wpAnyH_take (i := 15) (oi := { dst := some 26, op := _, type := _, pos := _, after := _, guard := some (5, false) }) (v := ?v50) rfl (by kernel_rfl) (by kernel_rfl) (by kernel_rfl) (fun _ _ _ h => h) (Or.inl ⟨by rfl, ?h50⟩) hS ?r50
          case h50 => intro w2 hw2; obtain ⟨s0, s1⟩ := hw2; go_simp; try with_reducible rfl
          simp only [Act.put, List.setIfInBounds_toArray, List.set_cons_zero, List.set_cons_succ]
          refine wpAnyH_take (i := 16) (oi := { dst := some 27, op := _, type := _, pos := _, after := _, guard := none }) (v := ?v51) rfl (by kernel_rfl) (by kernel_rfl) (by kernel_rfl) (fun _ _ _ h => h) (Or.inl ⟨by rfl, ?h51⟩) hS ?r51
          case h51 => intro w2 hw2; obtain ⟨s0, s1⟩ := hw2; go_simp; try with_reducible rfl
          simp only [Act.put, List.setIfInBounds_toArray, List.set_cons_zero, List.set_cons_succ]
          refine wpAnyH_done (by kernel_rfl) ?_ _
          go_wp2
          go_ret
          exact ⟨rfl, hG.drew⟩
end Go.Proofs.YtjibmhmaoegcnaaDoor
namespace Go.Proofs.YtjibmhmaoegcnaaDoor
open Go.RowKit Go.Shelf
set_option linter.unusedVariables false
attribute [local go_sem ↓] Go.wp_at_zero Go.wp_at_succ
def Ack.formed (a : Ack) : Bool := validB [a.f, 16, a.d, 512, a.s, 4, a.u, 65537]
set_option maxHeartbeats 1000000 in
set_option maxRecDepth 100000 in
theorem ackFormed_any (a : Ack) (w : World) (ha : a.ch.length = 32) :
    Calls Tryd.prog 24 #[.agg a.cells.toArray] w fun e w' => e = .returned (.bool a.formed) ∧ Gr w none w' := by
  have hB := Blk.new w 27 a.cells
  have c0 : (w.alloc (.cells a.cells.toArray 27)).cell? ⟨w.heap.size, 0, none⟩ = some (.int .i64 a.f) := hB.cell? 0
  have c1 : (w.alloc (.cells a.cells.toArray 27)).cell? ⟨w.heap.size, 1, none⟩ = some (.int .i64 a.d) := hB.cell? 1
  have c2 : (w.alloc (.cells a.cells.toArray 27)).cell? ⟨w.heap.size, 2, none⟩ = some (.int .i64 a.s) := hB.cell? 2
  have c3 : (w.alloc (.cells a.cells.toArray 27)).cell? ⟨w.heap.size, 3, none⟩ = some (.int .i64 a.u) := hB.cell? 3
  have hG : Gr w none (w.alloc (.cells a.cells.toArray 27)) := (Gr.refl _ _).alloc _
  go_enter Tryd.func24, Tryd.ntmps24
  go_upto_region 1 with fail
  change Code.wp _ _ _ _ (w.alloc (.cells a.cells.toArray 27))
  generalize (w.alloc (.cells a.cells.toArray 27)) = W at *
  go_wp2_with (go_at_call 46; refine (valid8_any W.heap.size a.f 16 a.d 512 a.s 4 a.u 65537 _ (at_new W [_, _, _, _, _, _, _, _] _)).mono ?_; rintro e w2 ⟨rfl, hG2⟩)
  go_ret
  exact ⟨rfl, (hG.alloc _).trans hG2⟩
end Go.Proofs.YtjibmhmaoegcnaaDoor
namespace Go.Proofs.YtjibmhmaoegcnaaDoor
open Go.RowKit Go.Shelf
set_option linter.unusedVariables false
attribute [local go_sem ↓] Go.wp_at_zero Go.wp_at_succ
/-- The value that is encoded, in its variable. -/
structure EV (w : World) (c : List Value) (w' : World) : Prop where
  gr : Gr w none w'
  blk : Blk w' w.heap.size 51 c
theorem EV.drew {w w' : World} {c : List Value} (h : EV w c w') : EV w c w'.drew := ⟨h.gr.drew, h.blk.drew⟩
theorem EV.on {w w' w'' : World} {c : List Value} (h : EV w c w') (k : Gr w' none w'') : EV w c w'' := ⟨h.gr.trans k, h.blk.grown k (by simp)⟩
theorem EV.all {w w' : World} {x0 x1 x2 x3 : Value} (h : EV w [x0, x1, x2, x3] w') : w'.cell? ⟨w.heap.size, 0, none⟩ = some x0 ∧ w'.cell? ⟨w.heap.size, 1, none⟩ = some x1 ∧ w'.cell? ⟨w.heap.size, 2, none⟩ = some x2 ∧ w'.cell? ⟨w.heap.size, 3, none⟩ = some x3 ∧ EV w [x0, x1, x2, x3] w' :=
  ⟨h.blk.cell? 0, h.blk.cell? 1, h.blk.cell? 2, h.blk.cell? 3, h⟩
/-- Nothing of the caller's is written: the row that is appended to is nil. -/
theorem AppTo.gr0 {w w0 w' : World} {v' : Value} (h : AppTo w (.slice none 0 0) w' v') (e1 : w.heap = w0.heap) (e2 : w.os = w0.os) (e3 : w.tape = w0.tape) (e4 : w.output = w0.output) : Gr w0 none w' :=
  ⟨h.gr.os.trans e2, h.gr.tape.trans e3, h.gr.output.trans e4, by rw [← e1]; exact h.gr.size, fun k hk hne => by rw [← e1]; exact h.gr.block k (by rw [e1]; exact hk) hne⟩
set_option maxHeartbeats 4000000 in
set_option maxRecDepth 100000 in
theorem encode_list (ls : List Leaf) (b cap : Nat) (w : World) (hb : b < w.heap.size) (hA : At w b 0 (ls.flatMap Leaf.cells)) (h0 : 0 < ls.length) (h1 : ls.length ≤ 100) (hok : ∀ x ∈ ls, x.ok) :
    Calls Tryd.prog 15 #[.agg #[.int .i64 3, .int .i64 0, .string ⟨#[]⟩, .slice (some ⟨b, 0, none⟩) ls.length cap]] w fun e w' => ∃ v', e = .returned (.tuple #[v', .int .i64 0]) ∧ OwnB w' w.heap.size v' (encF ls) ∧ v' ≠ .slice none 0 0 ∧ Gr w none w' := by
  have hEV : EV w [.int .i64 3, .int .i64 0, .string ⟨#[]⟩, .slice (some ⟨b, 0, none⟩) ls.length cap] (w.alloc (.cells #[.int .i64 3, .int .i64 0, .string ⟨#[]⟩, .slice (some ⟨b, 0, none⟩) ls.length cap] 51)) := ⟨(Gr.refl _ _).alloc _, Blk.new w _ [_, _, _, _]⟩
  go_enter Tryd.func15, Tryd.ntmps15
  go_upto_region 4 with (go_at_call 32; refine (codecCheck_list ls b cap _ (by rw [World.size_alloc]; omega) (hA.grown ((Gr.refl _ none).alloc _) (by simp)) h0 (by omega)).mono ?_; rintro e w1 ⟨rfl, hG1⟩; have hEV1 := hEV.on hG1)
  obtain ⟨d0, d1, d2, d3, _⟩ := hEV1.all
  have hsz1 := hEV1.gr.size
  have hlt1 := hEV1.blk.lt
  have hA1 := hA.grown hEV1.gr (by simp)
  go_region_with
    (first
      | (go_at_call 33; refine (newWriter_any _).mono ?_; rintro e w2 ⟨rfl, hG2, hW2, hs2⟩; have hEV2 := hEV1.drew.on (w'' := w2) hG2; obtain ⟨g0, g1, g2, g3, _⟩ := hEV2.all; have e2 : w2.cell? ⟨w1.heap.size, 3, none⟩ = some (.func (Fn.func 62) #[] #[.pointer (some ⟨w1.heap.size + 1, 0, none⟩)]) := hW2.tab.cell? 3; have hs3 : w2.heap.size = w1.heap.size + 2 := hs2; have hW3 : Writers w2 w1.heap.size (w1.heap.size + 1) := hW2; have hA2 := hA1.grown (w' := w2) (row := none) ⟨hG2.os, hG2.tape, hG2.output, hG2.size, hG2.block⟩ (by simp))
      | (with_reducible change Calls _ _ _ _ _; refine (write3_any w2.heap.size (.slice none 0 0) [] ls b cap w1.heap.size (w1.heap.size + 1) w2 (World.ownsRow_nil _ _ _ _) (Nat.le_refl _) (by omega) hA2 hW3 (by omega) (by omega) (by simp) h1 hok).mono ?_; rintro e w3 ⟨v3, rfl, hown3, hne3, hA3⟩; have hG3 := hA3.gr0 (w0 := w2) rfl rfl rfl rfl; have hEV3 := hEV2.on hG3))
  all_goals go_wp2_with fail
  all_goals go_ret2
  all_goals exact ⟨_, rfl, hown3.mono (by omega), hne3, hEV3.gr⟩
set_option maxHeartbeats 4000000 in
set_option maxRecDepth 100000 in
theorem encode_int (n : Int) (w : World) (h0 : -9223372036854775808 ≤ n) (h1 : n < 9223372036854775808) :
    Calls Tryd.prog 15 #[.agg #[.int .i64 1, .int .i64 n, .string ⟨#[]⟩, .slice none 0 0]] w fun e w' => ∃ v', e = .returned (.tuple #[v', .int .i64 0]) ∧ OwnB w' w.heap.size v' (Leaf.int n).enc ∧ v' ≠ .slice none 0 0 ∧ Gr w none w' := by
  have hEV : EV w [.int .i64 1, .int .i64 n, .string ⟨#[]⟩, .slice none 0 0] (w.alloc (.cells #[.int .i64 1, .int .i64 n, .string ⟨#[]⟩, .slice none 0 0] 51)) := ⟨(Gr.refl _ _).alloc _, Blk.new w _ [_, _, _, _]⟩
  go_enter Tryd.func15, Tryd.ntmps15
  go_upto_region 4 with (go_at_call 32; refine (codecCheck_leaf (.int n) _).mono ?_; rintro e w1 ⟨rfl, hG1⟩; have hEV1 := hEV.on hG1)
  obtain ⟨d0, d1, d2, d3, _⟩ := hEV1.all
  have hsz1 := hEV1.gr.size
  have hlt1 := hEV1.blk.lt
  go_region_with
    (first
      | (go_at_call 33; refine (newWriter_any _).mono ?_; rintro e w2 ⟨rfl, hG2, hW2, hs2⟩; have hEV2 := hEV1.drew.on (w'' := w2) hG2; obtain ⟨g0, g1, g2, g3, _⟩ := hEV2.all; have e2 : w2.cell? ⟨w1.heap.size, 1, none⟩ = some (.func (Fn.func 58) #[] #[]) := hW2.tab.cell? 1; have hs3 : w2.heap.size = w1.heap.size + 2 := hs2)
      | (with_reducible change Calls _ _ _ _ _; refine (write1_any w2.heap.size (.slice none 0 0) [] n w2 (World.ownsRow_nil _ _ _ _) (Nat.le_refl _) (by simp) h0 h1).mono ?_; rintro e w3 ⟨v3, rfl, hown3, hne3, hA3⟩; have hG3 := hA3.gr0 (w0 := w2) rfl rfl rfl rfl; have hEV3 := hEV2.on hG3))
  all_goals go_wp2_with fail
  all_goals go_ret2
  all_goals exact ⟨_, rfl, hown3.mono (by omega), hne3, hEV3.gr⟩
end Go.Proofs.YtjibmhmaoegcnaaDoor
