/- Parts of a proof, joined by program: Power, Group, Codec, Field, Numeral, Cspec, Codec2, Reader. -/
import Derived.Test.YtjibmhmaoegcnaaDoorK2
import Derived.RangeFuncNested
import Derived.RangeFuncBound
import Derived.RangeFuncCalls
import Derived.RangeFuncLeaves
import Derived.RangeFuncFrom
import Derived.Shelf.Abstract
import Derived.Shelf.RegionOpen
import Derived.OwnWalkIn
import Derived.TacticsInMore
import Derived.LoopNIn
import Derived.LoopIn
import Derived.Maps.AppendAt
import Derived.Deep.MidRow
namespace Go.Proofs.YtjibmhmaoegcnaaDoor
open Go.RowKit Go.Shelf
set_option linter.unusedVariables false
attribute [local go_sem] Oper.semAt_some

theorem mul_lt_of (a b m : Nat) (ha : a < m) (hb : b < m) (hm : m ≤ 18446744073709551616) : a * b / 18446744073709551616 < m := by
  apply Nat.div_lt_of_lt_mul
  have h1 : a * b ≤ a * m := Nat.mul_le_mul_left a (Nat.le_of_lt hb)
  have h2 : a * m < m * m := Nat.mul_lt_mul_of_pos_right ha (by omega)
  have h3 : m * m ≤ 18446744073709551616 * m := Nat.mul_le_mul_right m hm
  exact Nat.lt_of_le_of_lt h1 (Nat.lt_of_lt_of_le h2 h3)
theorem div_back (a b : Nat) : a * b / 18446744073709551616 * 18446744073709551616 + a * b % 18446744073709551616 = a * b := by
  rw [Nat.mul_comm]; exact Nat.div_add_mod _ _
set_option maxHeartbeats 1000000 in
theorem times_any (a b : Nat) (w : World) (ha : a < 4611686018427377339) (hb : b < 4611686018427377339) :
    Calls Tryd.prog 69 #[.int .u64 a, .int .u64 b] w fun e w' => e = .returned (.int .u64 ((a * b % 4611686018427377339 : Nat) : Int)) ∧ Gr w none w' := by
  have hq := mul_lt_of a b _ ha hb (by decide)
  have hr := Nat.mod_lt (a * b) (show 0 < 18446744073709551616 by decide)
  have hbk := div_back a b
  have ha2 : a < 18446744073709551616 := Nat.lt_trans ha (by decide)
  have hb2 : b < 18446744073709551616 := Nat.lt_trans hb (by decide)
  obtain ⟨c, hc⟩ : ∃ c, c = a * b := ⟨_, rfl⟩
  rw [← hc] at hq hr hbk ⊢
  have HQ := Lib.hid hq; have HR := Lib.hid hr; have HBK := Lib.hid hbk; have HA := Lib.hid ha; have HB := Lib.hid hb; have HC := Lib.hid hc; have HA2 := Lib.hid ha2; have HB2 := Lib.hid hb2
  clear hq hr hbk ha hb hc ha2 hb2
  go_enter Tryd.func69, Tryd.ntmps69
  go_wp2_with fail
  refine (Tryd.bits_Mul64 a b HA2.out HB2.out _).mono ?_
  rintro r w' ⟨rfl, rfl⟩
  rw [← HC.out]
  obtain ⟨x, hx⟩ : ∃ x, x = c / 18446744073709551616 := ⟨_, rfl⟩
  obtain ⟨y, hy⟩ : ∃ y, y = c % 18446744073709551616 := ⟨_, rfl⟩
  rw [← hx, ← hy]
  have HX := Lib.hid hx; have HY := Lib.hid hy; clear hx hy
  go_wp2_with fail
  refine (div64_dP x y _ (by rw [HX.out]; exact HQ.out) (by rw [HY.out]; exact HR.out)).mono ?_
  rintro r w2 ⟨rfl, hG⟩
  rw [HX.out, HY.out, HBK.out]
  go_wp2
  go_ret
  exact ⟨rfl, hG⟩

/-- What has come when k rounds are over. -/
def upto {α : Type} (f : Nat → α) (k : Nat) : List α := (List.range k).map f
theorem upto_succ {α : Type} (f : Nat → α) (k : Nat) : upto f (k + 1) = upto f k ++ [f k] := by simp [upto, List.range_succ]
theorem upto_length {α : Type} (f : Nat → α) (k : Nat) : (upto f k).length = k := by simp [upto]
/-- The bits of a number, the most significant one first. -/
def bitF (k j : Nat) : Bool := k.testBit (Lib.bitLen k - 1 - j)
theorem bitLen_le (k : Nat) (h : k < 18446744073709551616) : Lib.bitLen k ≤ 64 := by
  have := Any.bitLen_le64 (k : Int) (by omega) (by omega)
  simpa using this
theorem len64_any (k : Nat) (w : World) (h : k < 18446744073709551616) : Calls Tryd.prog 95 #[.int .u64 k] w fun e w' => e = .returned (.int .i64 (Lib.bitLen k)) ∧ w = w' := by
  refine (Tryd.bits_Len64 (k : Int) w (by omega) (by omega)).mono ?_
  rintro e w' ⟨rfl, rfl⟩
  exact ⟨by simp, rfl⟩
theorem bit_and (k i : Nat) (hk : k < 18446744073709551616) : (bits .and .u64 ((k : Int) / 2 ^ i) 1 == 1) = k.testBit i := by
  have e : ((k : Int) / 2 ^ i) = ((k / 2 ^ i : Nat) : Int) := by simp
  rw [e, show (1 : Int) = ((1 : Nat) : Int) from rfl, bits_and_u64_nat _ _ (Nat.lt_of_le_of_lt (Nat.div_le_self _ _) hk) (by decide), Nat.and_one_is_mod]
  rw [Nat.testBit_eq_decide_div_mod_eq]
  rw [Bool.eq_iff_iff]; simp; omega
set_option maxHeartbeats 2000000 in
set_option maxRecDepth 100000 in
theorem digits1_in (l Bs k : Nat) (hk : k < 18446744073709551616) (J Jx : List Bool → World → Prop)
    (hY : ∀ pre x W, J pre W → pre.length < Lib.bitLen k → YieldAt Fence.wide 2 Tryd.prog l #[.bool x] W fun e W' =>
      (e = .returned (.bool true) ∧ J (pre ++ [x]) W' ∧ W'.heap[Bs]? = W.heap[Bs]?) ∨ (e = .returned (.bool false) ∧ Jx (pre ++ [x]) W'))
    (W : World) (hBs : W.cell? ⟨Bs, 0, none⟩ = some (.int .u64 k)) (h0 : J [] W) :
    CallsIn Fence.wide 3 Tryd.prog 94 #[.func (.yield l) #[] #[], .pointer (some ⟨Bs, 0, none⟩)] W fun e W' => (∃ v, e = .returned v) ∧
      ((∃ ys, ys = upto (bitF k) (Lib.bitLen k) ∧ J ys W') ∨ (∃ pre, (∃ m, m ≤ Lib.bitLen k ∧ pre = upto (bitF k) m) ∧ Jx pre W')) := by
  have hL := bitLen_le k hk
  have HK := Lib.hid hk; clear hk
  refine callsIn_of_wp Tryd.func94 rfl trivial ?_ rfl
  simp only [Tryd.ntmps94, List.size_toArray, List.length_cons, List.length_nil, Nat.reduceAdd, Nat.reduceSub, Array.replicate_succ, Array.replicate_zero, List.push_toArray, List.append_toArray, List.nil_append, List.cons_append]
  gi_wp2_with (refine ⟨trivial, ?_⟩; gi_at_call 95; refine (callsIn_wide.2 (len64_any k _ HK.out)).mono ?_; rintro e w' ⟨rfl, rfl⟩)
  gi_loopw [3] (fun i wr => ∃ m : Nat, m ≤ Lib.bitLen k ∧ i = .int .i64 ((Lib.bitLen k : Int) - 1 - m) ∧ J (upto (bitF k) m) wr ∧ wr.heap[Bs]? = W.heap[Bs]?)
    (fun i _ => (intOf i + 1).toNat)
  case atStart => exact ⟨0, Nat.zero_le _, by simp, h0, rfl⟩
  case round =>
    obtain ⟨m, hm, rfl, hJs, hnx⟩ := hrel
    by_cases hlt : m < Lib.bitLen k
    · obtain ⟨fn, tmps, assign, body, hy, hR⟩ := hY _ (bitF k m) wr hJs (by rw [upto_length]; exact hlt)
      have hcx := (World.cell?_of_block (a := ⟨Bs, 0, none⟩) hnx).trans hBs
      have HNX := Lib.hid hnx; clear hnx
      have hbit := bit_and k (Lib.bitLen k - 1 - m) HK.out
      rw [show k.testBit (Lib.bitLen k - 1 - m) = bitF k m from rfl] at hbit
      gi_wp2
      refine hR.mono ?_
      rintro e W3 (⟨rfl, hJ3, hk3⟩ | ⟨rfl, hJx3⟩)
      · gi_wp2
        go_roundw
        case rel => exact ⟨m + 1, by omega, int_eq (by omega), by rw [upto_succ]; exact hJ3, hk3.trans HNX.out⟩
        case measure => simp [intOf]; omega
      · gi_wp2
        refine bodyPost_ret (results_none rfl _ _ _) rfl ?_
        exact ⟨⟨_, rfl⟩, .inr ⟨_, ⟨m + 1, by omega, (upto_succ _ _).symm⟩, hJx3⟩⟩
    · obtain rfl : m = Lib.bitLen k := by omega
      gi_wp2
      go_end0
      exact ⟨⟨_, rfl⟩, .inl ⟨_, rfl, hJs⟩⟩
theorem digits_in (k : Nat) (w : World) : CallsIn Fence.wide 3 Tryd.prog 87 #[.int .u64 k] w fun e w' =>
    e = .returned (.func (.func 94) #[] #[.pointer (some ⟨w.heap.size, 0, none⟩)]) ∧ w' = w.alloc (.cells #[.int .u64 k] 109) := by
  refine callsIn_of_wp Tryd.func87 rfl trivial ?_ rfl
  simp only [Tryd.ntmps87, List.size_toArray, List.length_cons, List.length_nil, Nat.reduceAdd, Nat.reduceSub, Array.replicate_succ, Array.replicate_zero, List.push_toArray, List.append_toArray, List.nil_append, List.cons_append]
  gi_wp2
  go_ret
  exact ⟨rfl, rfl⟩
theorem digits_stops (Bs k : Nat) (w : World) (hk : k < 18446744073709551616) (hb : Bs < w.heap.size) (hc : w.cell? ⟨Bs, 0, none⟩ = some (.int .u64 k)) :
    SeqStopsK Fence.wide 3 Tryd.prog 94 #[.pointer (some ⟨Bs, 0, none⟩)] (fun x : Bool => #[Value.bool x]) (fun W W' => W'.heap[Bs]? = W.heap[Bs]?) (fun ys => ys = upto (bitF k) (Lib.bitLen k)) (fun _ => True) (Lib.bitLen k) w := fun l J Jx W hW _ _ hY h0 => by
  have hc' := (hW.cell (p := ⟨Bs, 0, none⟩) hb).trans hc
  refine (digits1_in l Bs k hk J Jx hY W hc' h0).mono ?_
  rintro e W' ⟨he, ⟨ys, rfl, hj⟩ | ⟨pre, ⟨m, hm, rfl⟩, hj⟩⟩
  · exact ⟨he, .inl ⟨_, rfl, hj⟩⟩
  · exact ⟨he, .inr ⟨_, trivial, hj⟩⟩
theorem cell_of_box_l {W : World} {B : Nat} {v : Value} {t : TypeId} (h : W.heap[B]? = some (.cells #[v] t (0, 0))) : W.cell? ⟨B, 0, none⟩ = some v ∧ W.frozen? ⟨B, 0, none⟩ = false := by
  constructor <;> simp [World.cell?, World.frozen?, h]
theorem cell_new_l (W : World) (v : Value) (t : TypeId) : (W.alloc (.cells #[v] t)).cell? ⟨W.heap.size, 0, none⟩ = some v ∧ (W.alloc (.cells #[v] t)).frozen? ⟨W.heap.size, 0, none⟩ = false :=
  cell_of_box_l (World.alloc_heap_new W _)
theorem cell_alloc_l {W : World} {a : Addr} {v : Value} (o : Obj) (h : W.cell? a = some v) : (W.alloc o).cell? a = some v := cell_kept h (World.grownBy_alloc W o none) (fun r e => by cases e)
theorem frozen_alloc_l {W : World} {a : Addr} {v : Value} (o : Obj) (h : W.cell? a = some v) (hf : W.frozen? a = false) : (W.alloc o).frozen? a = false := (frozen_kept h (World.grownBy_alloc W o none) (fun r e => by cases e)).trans hf
/-- A power by squaring, along the bits. -/
def pw (a : Nat) (pre : List Bool) : Nat := pre.foldl (fun c b => if b then c * c % 4611686018427377339 * a % 4611686018427377339 else c * c % 4611686018427377339) 1
theorem pw_snoc (a : Nat) (pre : List Bool) (b : Bool) : pw a (pre ++ [b]) = if b then pw a pre * pw a pre % 4611686018427377339 * a % 4611686018427377339 else pw a pre * pw a pre % 4611686018427377339 := by simp [pw]
theorem pw_lt (a : Nat) (pre : List Bool) : pw a pre < 4611686018427377339 := by
  unfold pw
  rw [← List.foldr_reverse]
  cases pre.reverse with
  | nil => simp
  | cons b l => simp only [List.foldr_cons]; split <;> exact Nat.mod_lt _ (by decide)
theorem pstep {n₀ : Nat} {W w1 : World} {a c : Value} (v : Value) (hca : W.cell? ⟨n₀, 0, none⟩ = some a) (hc : W.cell? ⟨n₀ + 1, 0, none⟩ = some c) (hf : W.frozen? ⟨n₀ + 1, 0, none⟩ = false) (hs : n₀ + 2 < W.heap.size) (hg : Gr W none w1) :
    KeepsOthers W (w1.setCell ⟨n₀ + 1, 0, none⟩ v) ∧ (w1.setCell ⟨n₀ + 1, 0, none⟩ v).heap[n₀ + 1 + 1]? = W.heap[n₀ + 1 + 1]? ∧ Below n₀ W (w1.setCell ⟨n₀ + 1, 0, none⟩ v) ∧
    (w1.setCell ⟨n₀ + 1, 0, none⟩ v).cell? ⟨n₀, 0, none⟩ = some a ∧ (w1.setCell ⟨n₀ + 1, 0, none⟩ v).cell? ⟨n₀ + 1, 0, none⟩ = some v ∧ (w1.setCell ⟨n₀ + 1, 0, none⟩ v).frozen? ⟨n₀ + 1, 0, none⟩ = false ∧ n₀ + 2 < (w1.setCell ⟨n₀ + 1, 0, none⟩ v).heap.size := by
  have ha1 := cell_kept hca hg (fun r e => by cases e)
  have hc1 := cell_kept hc hg (fun r e => by cases e)
  have hf1 := (frozen_kept hc hg (fun r e => by cases e)).trans hf
  have hsz := hg.size
  refine ⟨(KeepsOthers.of_grownBy hg (fun r o e => by cases e)).trans (KeepsOthers.setCell _ _ _), ?_, ((Below.refl n₀ W).grown hg (by omega) (fun r e => by cases e)).setCell (p := ⟨n₀ + 1, 0, none⟩) (by simp) _, ?_, World.cell?_setCell_same' _ _ _ (by rw [hc1]; rfl), by rw [World.frozen?_setCell]; exact hf1, by simp; omega⟩
  · refine Eq.trans ?_ (hg.block (n₀ + 1 + 1) (by omega) (fun e => by cases e))
    show (w1.heap.modify (n₀ + 1) _)[n₀ + 1 + 1]? = _
    simp [Array.getElem?_modify]
  · refine Eq.trans (World.cell?_of_block ?_) ha1
    show (w1.heap.modify (n₀ + 1) _)[n₀]? = _
    simp [Array.getElem?_modify]
set_option maxHeartbeats 2000000 in
set_option maxRecDepth 100000 in
theorem power_in (a k : Nat) (w : World) (ha : a < 4611686018427377339) (hk : k < 18446744073709551616) :
    CallsIn Fence.wide 4 Tryd.prog 66 #[.int .u64 a, .int .u64 k] w fun e w' => e = .returned (.int .u64 (pw a (upto (bitF k) (Lib.bitLen k)))) ∧ Below w.heap.size w w' := by
  have HA := Lib.hid ha; have HK := Lib.hid hk; clear ha hk
  refine callsIn_of_wp_marks Tryd.func66 rfl trivial ?_ rfl
  simp only [Tryd.ntmps66, List.size_toArray, List.length_cons, List.length_nil, Nat.reduceAdd, Nat.reduceSub, Array.replicate_succ, Array.replicate_zero, List.push_toArray, List.append_toArray, List.nil_append, List.cons_append]
  gi_wp2_with (refine ⟨trivial, ?_⟩; gi_at_call 87; refine (digits_in _ _).mono ?_; rintro e w' ⟨rfl, rfl⟩)
  have c0 := cell_new_l w (.int .u64 a) 109
  have c1 := cell_new_l (w.alloc (.cells #[.int .u64 a] 109)) (.int .u64 1) 109
  have c2 := cell_new_l ((w.alloc (.cells #[.int .u64 a] 109)).alloc (.cells #[.int .u64 1] 109)) (.int .u64 k) 109
  simp only [World.size_alloc] at c1 c2
  have hB0 : Below w.heap.size w (((w.alloc (.cells #[.int .u64 a] 109)).alloc (.cells #[.int .u64 1] 109)).alloc (.cells #[.int .u64 k] 109)) := (((Below.refl _ w).alloc (Nat.le_refl _) _).alloc (by simp) _).alloc (by simp; omega) _
  refine wpIn_rangeFunc_ownF rfl (by decide) (gf := 94) (lb := #[.pointer (some ⟨w.heap.size + 1 + 1, 0, none⟩)]) rfl trivial (enters_of Tryd.func94 (by kernel_rfl) rfl)
    (digits_stops (w.heap.size + 1 + 1) k _ HK.out (by simp) c2.1) (fun h k => k.trans h) (fun W lb o o' hl ho hc _ => (grownBy_putObj' W lb o').block _ (by simp at hl; have := (Array.getElem?_eq_some_iff.1 ho).1; omega) (by simp at hl; intro e; cases e; omega)) (Below.refl _ _) (fun _ => rfl)
    (fun pre W => (W.cell? ⟨w.heap.size, 0, none⟩ = some (.int .u64 a) ∧ W.cell? ⟨w.heap.size + 1, 0, none⟩ = some (.int .u64 (pw a pre)) ∧ W.frozen? ⟨w.heap.size + 1, 0, none⟩ = false ∧ w.heap.size + 2 < W.heap.size) ∧ Below w.heap.size w W)
    (fun _ _ _ => False)
    (OwnFrom.and (Own.from (fun s A B row hs hg hr => ⟨cell_kept hs.1 hg hr, cell_kept hs.2.1 hg hr, (frozen_kept hs.2.1 hg hr).trans hs.2.2.1, Nat.lt_of_lt_of_le hs.2.2.2 hg.size⟩) _) (ownFrom_below (Nat.le_refl _) (by simp; omega)))
    (fun _ _ _ _ _ hs _ _ => hs)
    ⟨⟨cell_alloc_l _ (cell_alloc_l _ c0.1), cell_alloc_l _ c1.1, frozen_alloc_l _ c1.1 c1.2, by simp⟩, hB0⟩
    (fun x => { tmps := #[.int .u64 a, .int .u64 k, .pointer (some ⟨w.heap.size, 0, none⟩), undef, .int .u64 0, .pointer (some ⟨w.heap.size + 1, 0, none⟩), .bool x, .int .u64 k, .func (.func 94) #[] #[.pointer (some ⟨w.heap.size + 1 + 1, 0, none⟩)], .bool x, undef, undef, undef, undef, undef, undef, undef, undef], defers := [] }) ?assign ?body ?done ?stop
  case assign =>
    intro l x W K hK
    gi_wp2
    exact hK
  case body =>
    rintro l pre x W ⟨⟨hca, hc, hf, hs⟩, hB⟩ _
    have HL := Lib.hid (pw_lt a pre)
    have hcast : ((pw a pre : Int) * (pw a pre : Int) % 4611686018427377339) = ((pw a pre * pw a pre % 4611686018427377339 : Nat) : Int) := by simp
    gi_wp2_with fail
    refine ⟨trivial, ?_⟩; gi_at_call 69; refine (CallsIn.inRound l (callsIn_wide.2 (times_any _ _ _ HL.out HL.out))).mono ?_; rintro e w1 ⟨rfl, hg1⟩
    obtain ⟨k1, k2, k3, k4, k5, k6, k7⟩ := pstep (.int .u64 ((pw a pre * pw a pre % 4611686018427377339 : Nat) : Int)) hca hc hf hs hg1
    have hc1 := cell_kept hc hg1 (fun r e => by cases e)
    have hf1 := (frozen_kept hc hg1 (fun r e => by cases e)).trans hf
    generalize hv : ((pw a pre * pw a pre % 4611686018427377339 : Nat)) = v at *
    cases x
    · gi_wp2
      exact ⟨k1, k2, ⟨k4, by rw [pw_snoc, hv]; exact k5, k6, k7⟩, hB.trans k3⟩
    · generalize hw2 : w1.setCell ⟨w.heap.size + 1, 0, none⟩ (.int .u64 (v : Int)) = w2 at *
      have HV := Lib.hid (show v < 4611686018427377339 by rw [← hv]; exact Nat.mod_lt _ (by decide))
      gi_wp2_with fail
      refine ⟨trivial, ?_⟩; refine (CallsIn.inRound l (callsIn_wide.2 (times_any _ _ _ HV.out HA.out))).mono ?_; rintro e w3 ⟨rfl, hg3⟩
      obtain ⟨q1, q2, q3, q4, q5, q6, q7⟩ := pstep (.int .u64 ((v * a % 4611686018427377339 : Nat) : Int)) k4 k5 k6 k7 hg3
      have hc3 := cell_kept k5 hg3 (fun r e => by cases e)
      have hf3 := (frozen_kept k5 hg3 (fun r e => by cases e)).trans k6
      generalize hv3 : ((v * a % 4611686018427377339 : Nat)) = v3 at *
      gi_wp2
      exact ⟨k1.trans q1, q2.trans k2, ⟨q4, by rw [pw_snoc, hv, hv3]; exact q5, q6, q7⟩, (hB.trans k3).trans q3⟩
  case done =>
    rintro D ys W hD rfl ⟨⟨_, hc, _, _⟩, hB⟩ hK
    gi_wp2
    refine ⟨by simp, .inl ⟨_, _, rfl, run_takeDeferred hK, ?_⟩⟩
    exact ⟨_, results_tmp rfl _ _ _, rfl, hB.trans (belowK_b (w := w) (Nat.le_refl _) W D _ _ (by simp at hD; omega) hK rfl rfl)⟩
  case stop =>
    rintro D c pre W _ _ h _
    exact h.elim
theorem bitLen_lt (x : Nat) : ∀ (h : x < 2 ^ 64), x < 2 ^ Lib.bitLen x := by
  induction x using Nat.strongRecOn with
  | _ x ih =>
    intro h
    by_cases h0 : x = 0
    · subst h0; exact Nat.pow_pos (by decide)
    · have := ih (x / 2) (by omega) (by omega)
      rw [Lib.bitLen_half x h0 h, Nat.pow_add]
      omega
theorem bitF_div (k j : Nat) (h : j < Lib.bitLen k) : k / 2 ^ (Lib.bitLen k - (j + 1)) = 2 * (k / 2 ^ (Lib.bitLen k - j)) + (bitF k j).toNat := by
  unfold bitF
  obtain ⟨L, hL⟩ : ∃ L, L = Lib.bitLen k - 1 - j := ⟨_, rfl⟩
  rw [← hL, show Lib.bitLen k - (j + 1) = L by omega, show Lib.bitLen k - j = L + 1 by omega, Nat.pow_succ, ← Nat.div_div_eq_div_mul, Nat.testBit_eq_decide_div_mod_eq]
  by_cases h1 : k / 2 ^ L % 2 = 1 <;> simp [h1] <;> omega
theorem pw_pow (a k : Nat) (hk : k < 18446744073709551616) : ∀ m, m ≤ Lib.bitLen k → pw a (upto (bitF k) m) = a ^ (k / 2 ^ (Lib.bitLen k - m)) % 4611686018427377339
  | 0, _ => by
    rw [Nat.sub_zero, Nat.div_eq_of_lt (bitLen_lt k hk)]
    show 1 = a ^ 0 % _
    rw [Nat.pow_zero]
  | m + 1, h => by
    rw [upto_succ, pw_snoc, pw_pow a k hk m (by omega), bitF_div k m (by omega), Nat.pow_add, Nat.mul_comm 2, Nat.pow_mul, Nat.pow_two]
    cases bitF k m
    · simp only [Bool.toNat_false, Nat.pow_zero, Nat.mul_one]
      exact (Nat.mul_mod _ _ _).symm
    · simp only [Bool.toNat_true, Nat.pow_one]
      rw [if_pos trivial, ← Nat.mul_mod, Nat.mod_mul_mod]
theorem power_any (a k : Nat) (w : World) (ha : a < 4611686018427377339) (hk : k < 18446744073709551616) :
    Calls Tryd.prog 66 #[.int .u64 a, .int .u64 k] w fun e w' => e = .returned (.int .u64 ((a ^ k % 4611686018427377339 : Nat) : Int)) ∧ Gr w none w' := by
  refine (callsIn_wide.1 (power_in a k w ha hk)).mono ?_
  rintro e w' ⟨rfl, h⟩
  refine ⟨?_, Gr.of_below h⟩
  have := pw_pow a k hk _ (Nat.le_refl _)
  rw [Nat.sub_self, Nat.pow_zero, Nat.div_one] at this
  rw [this]
end Go.Proofs.YtjibmhmaoegcnaaDoor
namespace Go.Proofs.YtjibmhmaoegcnaaDoor
open Go.RowKit Go.Shelf
set_option linter.unusedVariables false

/-- A power modulo the program's P. -/
def powP (a k : Nat) : Nat := a ^ k % 4611686018427377339
theorem powP_lt (a k : Nat) : powP a k < 4611686018427377339 := Nat.mod_lt _ (by decide)
theorem power_P (a k : Nat) (w : World) (ha : a < 4611686018427377339) (hk : k < 18446744073709551616) :
    Calls Tryd.prog 66 #[.int .u64 a, .int .u64 k] w fun e w' => e = .returned (.int .u64 (powP a k)) ∧ Gr w none w' := power_any a k w ha hk
theorem powP_eq (a k : Nat) : powP a k = a ^ k % 4611686018427377339 := rfl
attribute [irreducible] powP
/-- An element of the group: within the range, and of the order. -/
def InG (x : Int) : Prop := 1 ≤ x ∧ x < 4611686018427377339 ∧ powP x.toNat 2305843009213688669 = 1
instance (x : Int) : Decidable (InG x) := by unfold InG; infer_instance
def elemErr (x : Int) : Int := if InG x then 0 else 40
theorem inG_nat (n : Nat) (h : 1 ≤ n) (h2 : n < 4611686018427377339) : InG n ↔ powP n 2305843009213688669 = 1 := by
  unfold InG
  simp only [Int.toNat_natCast]
  exact ⟨fun h => h.2.2, fun k => ⟨by omega, by omega, k⟩⟩
theorem wrap_i64' (n : Nat) (h : n < 9223372036854775808) : IntKind.i64.wrap (n : Int) = (n : Int) := by rw [IntKind.wrap_i64]; omega
set_option maxHeartbeats 1000000 in
theorem groupCheck_any (x : Int) (w : World) :
    Calls Tryd.prog 36 #[.int .i64 x] w fun e w' => e = .returned (.int .i64 (elemErr x)) ∧ Gr w none w' := by
  by_cases h1 : x < 1
  · have e1 : decide (x < 1) = true := decide_eq_true h1
    have e2 : elemErr x = 40 := if_neg (fun h => by have := h.1; omega)
    rw [e2]; clear e2
    go_enter Tryd.func36, Tryd.ntmps36
    go_wp2
    go_ret
    exact ⟨rfl, Gr.refl _ _⟩
  · by_cases h2 : x < 4611686018427377339
    · obtain ⟨n, rfl⟩ : ∃ n : Nat, x = n := ⟨x.toNat, by omega⟩
      have hn : n < 4611686018427377339 := by omega
      have e1 : decide ((n : Int) < 1) = false := decide_eq_false h1
      have e3 : decide ((n : Int) ≥ 4611686018427377339) = false := decide_eq_false (by omega)
      have hi := inG_nat n (by omega) hn
      have HN := Lib.hid hn; clear hn h1 h2
      by_cases h3 : powP n 2305843009213688669 = 1
      · rw [show elemErr n = 0 from if_pos (hi.2 h3)]
        have e4 : ((powP n 2305843009213688669 : Nat) : Int) = 1 := by rw [h3]; rfl
        go_enter Tryd.func36, Tryd.ntmps36
        go_wp2_with fail
        rw [wrap_lt n (Nat.lt_trans HN.out (by decide))]
        refine (power_P n _ _ HN.out (by decide)).mono ?_
        rintro e w' ⟨rfl, hG⟩
        rw [e4]
        go_wp2
        go_ret
        exact ⟨rfl, hG⟩
      · rw [show elemErr n = 40 from if_neg (fun h => h3 (hi.1 h))]
        have e4 : ((powP n 2305843009213688669 : Nat) : Int) ≠ 1 := by omega
        go_enter Tryd.func36, Tryd.ntmps36
        go_wp2_with fail
        rw [wrap_lt n (Nat.lt_trans HN.out (by decide))]
        refine (power_P n _ _ HN.out (by decide)).mono ?_
        rintro e w' ⟨rfl, hG⟩
        generalize ((powP n 2305843009213688669 : Nat) : Int) = z at e4 ⊢
        go_wp2
        go_ret
        exact ⟨rfl, hG⟩
    · have e1 : decide (x < 1) = false := decide_eq_false h1
      have e3 : decide (x ≥ 4611686018427377339) = true := decide_eq_true (by omega)
      have e2 : elemErr x = 40 := if_neg (fun h => by have := h.2.1; omega)
      rw [e2]; clear e2
      clear h1 h2
      go_enter Tryd.func36, Tryd.ntmps36
      go_wp2
      go_ret
      exact ⟨rfl, Gr.refl _ _⟩
/-- What Exp hands back. -/
def expV (g k : Int) : Int × Int := if InG g then (if 0 ≤ k ∧ k < 2305843009213688669 then (((powP g.toNat k.toNat : Nat) : Int), 0) else (0, 1)) else (0, 40)
set_option maxHeartbeats 1000000 in
theorem exp_any (g k : Int) (w : World) :
    Calls Tryd.prog 39 #[.int .i64 g, .int .i64 k] w fun e w' => e = .returned (.tuple #[.int .i64 (expV g k).1, .int .i64 (expV g k).2]) ∧ Gr w none w' := by
  by_cases hg : InG g
  · have he : elemErr g = 0 := if_pos hg
    by_cases h1 : k < 0
    · have e1 : decide (k < 0) = true := decide_eq_true h1
      rw [show expV g k = (0, 1) by unfold expV; rw [if_pos hg, if_neg (by omega)]]
      clear h1
      go_enter Tryd.func39, Tryd.ntmps39
      go_wp2_with (go_at_call 36; refine (groupCheck_any _ _).mono ?_; rintro e w' ⟨rfl, hG⟩; rw [he])
      go_ret2
      exact ⟨rfl, hG⟩
    · by_cases h2 : k < 2305843009213688669
      · obtain ⟨n, rfl⟩ : ∃ n : Nat, k = n := ⟨k.toNat, by omega⟩
        obtain ⟨a, rfl⟩ : ∃ a : Nat, g = a := ⟨g.toNat, by have := hg.1; omega⟩
        have HA := Lib.hid (show a < 4611686018427377339 by have := hg.2.1; omega)
        have HN := Lib.hid (show n < 2305843009213688669 by omega)
        have e1 : decide ((n : Int) < 0) = false := decide_eq_false h1
        have e3 : decide ((n : Int) ≥ 2305843009213688669) = false := decide_eq_false (by omega)
        rw [show expV a n = (((powP a n : Nat) : Int), 0) by unfold expV; rw [if_pos hg, if_pos (by omega)]; simp]
        clear h1 h2
        obtain ⟨z, hz⟩ : ∃ z, z = powP a n := ⟨_, rfl⟩
        have HP := Lib.hid (show z < 4611686018427377339 by rw [hz]; exact powP_lt a n)
        rw [← hz]
        have HZ := Lib.hid hz; clear hz
        go_enter Tryd.func39, Tryd.ntmps39
        go_wp2_with (go_at_call 36; refine (groupCheck_any _ _).mono ?_; rintro e w' ⟨rfl, hG⟩; rw [he])
        rw [wrap_lt a (Nat.lt_trans HA.out (by decide)), wrap_lt n (Nat.lt_trans HN.out (by decide))]
        refine (power_P a n _ HA.out (Nat.lt_trans HN.out (by decide))).mono ?_
        rintro e w2 ⟨rfl, hG2⟩
        rw [← HZ.out]
        have e5 := wrap_i64' z (Nat.lt_trans HP.out (by decide))
        go_wp2
        go_ret2
        exact ⟨rfl, hG.trans hG2⟩
      · have e1 : decide (k < 0) = false := decide_eq_false h1
        have e3 : decide (k ≥ 2305843009213688669) = true := decide_eq_true (by omega)
        rw [show expV g k = (0, 1) by unfold expV; rw [if_pos hg, if_neg (by omega)]]
        clear h1 h2
        go_enter Tryd.func39, Tryd.ntmps39
        go_wp2_with (go_at_call 36; refine (groupCheck_any _ _).mono ?_; rintro e w' ⟨rfl, hG⟩; rw [he])
        go_ret2
        exact ⟨rfl, hG⟩
  · have he : elemErr g = 40 := if_neg hg
    rw [show expV g k = (0, 40) by unfold expV; rw [if_neg hg]]
    go_enter Tryd.func39, Tryd.ntmps39
    go_wp2_with (go_at_call 36; refine (groupCheck_any _ _).mono ?_; rintro e w' ⟨rfl, hG⟩; rw [he])
    go_ret2
    exact ⟨rfl, hG⟩
theorem base_any (k : Int) (w : World) :
    Calls Tryd.prog 38 #[.int .i64 k] w fun e w' => e = .returned (.tuple #[.int .i64 (expV 4 k).1, .int .i64 (expV 4 k).2]) ∧ Gr w none w' := by
  go_enter Tryd.func38, Tryd.ntmps38
  go_wp2_with (go_at_call 39; refine (exp_any _ _ _).mono ?_; rintro e w' ⟨rfl, hG⟩)
  go_ret2
  exact ⟨rfl, hG⟩
theorem index_pair (a b : Value) (k : Nat) (v : Value) (hk : k < 2) (hv : #[a, b][k]? = some v) : ∀ w, (Instr.index 119 (.agg #[a, b]) (.int .i64 (k : Int))).run Tryd.prog w = .ok v w := by
  intro w
  exact run_index_arr _ k _ Tryd.underlying119 (by kernel_rfl) (by kernel_rfl) hk hv
/-- What Mul hands back. -/
def mulV (a b : Int) : Int × Int := if InG a ∧ InG b then (((a.toNat * b.toNat % 4611686018427377339 : Nat) : Int), 0) else (0, 40)
set_option maxHeartbeats 1000000 in
set_option maxRecDepth 20000 in
theorem mul_any (a b : Int) (w : World) :
    Calls Tryd.prog 41 #[.int .i64 a, .int .i64 b] w fun e w' => e = .returned (.tuple #[.int .i64 (mulV a b).1, .int .i64 (mulV a b).2]) ∧ Gr w none w' := by
  go_enter Tryd.func41, Tryd.ntmps41
  go_wp2_with fail
  go_loopw [12] (fun i wr => ∃ m : Nat, m ≤ 2 ∧ i = .int .i64 m ∧ (1 ≤ m → InG a) ∧ (2 ≤ m → InG b) ∧ Gr w none wr) (fun i _ => (2 - intOf i).toNat)
  case atStart => exact ⟨0, by omega, rfl, fun h => by omega, fun h => by omega, Gr.refl _ _⟩
  case round =>
    obtain ⟨m, hm, rfl, ha, hb, hG⟩ := hrel
    have HA := Lib.hid ha; have HB := Lib.hid hb; clear ha hb
    by_cases hlt : m < 2
    · obtain ⟨c, hv, hno, hyes⟩ : ∃ c : Int, #[Value.int .i64 a, Value.int .i64 b][m]? = some (.int .i64 c) ∧ (¬ InG c → mulV a b = (0, 40)) ∧ (InG c → (1 ≤ m + 1 → InG a) ∧ (2 ≤ m + 1 → InG b)) := by
        obtain rfl | rfl : m = 0 ∨ m = 1 := by omega
        · exact ⟨a, rfl, fun h => if_neg (fun k => h k.1), fun h => ⟨fun _ => h, fun h => by omega⟩⟩
        · exact ⟨b, rfl, fun h => if_neg (fun k => h k.2), fun h => ⟨fun _ => HA.out (by omega), fun _ => h⟩⟩
      have hix := index_pair (.int .i64 a) (.int .i64 b) m _ hlt hv
      clear HA HB
      by_cases h : InG c
      · have he : elemErr c = 0 := if_pos h
        have HH := Lib.hid (hyes h); clear hyes hno h
        go_wp2_with (go_at_call 36; refine (groupCheck_any _ _).mono ?_; rintro e w' ⟨rfl, hG'⟩; rw [he])
        go_roundw
        case rel => exact ⟨m + 1, by omega, int_eq (by omega), HH.out.1, HH.out.2, hG.trans hG'⟩
        case measure => simp [intOf]; omega
      · have he : elemErr c = 40 := if_neg h
        have hv := hno h
        clear h hno hyes
        go_wp2_with (go_at_call 36; refine (groupCheck_any _ _).mono ?_; rintro e w' ⟨rfl, hG'⟩; rw [he])
        go_ret2
        exact ⟨by rw [hv]; rfl, hG.trans hG'⟩
    · obtain rfl : m = 2 := by omega
      have ga := HA.out (by omega)
      have gb := HB.out (by omega); clear HA HB hm
      obtain ⟨x, rfl⟩ : ∃ x : Nat, a = x := ⟨a.toNat, by have := ga.1; omega⟩
      obtain ⟨y, rfl⟩ : ∃ y : Nat, b = y := ⟨b.toNat, by have := gb.1; omega⟩
      have HX := Lib.hid (show x < 4611686018427377339 by have := ga.2.1; omega)
      have HY := Lib.hid (show y < 4611686018427377339 by have := gb.2.1; omega)
      have HV := Lib.hid (show mulV x y = (((x * y % 4611686018427377339 : Nat) : Int), 0) by unfold mulV; rw [if_pos ⟨ga, gb⟩]; simp only [Int.toNat_natCast])
      clear ga gb
      go_wp2_with fail
      rw [wrap_lt x (Nat.lt_trans HX.out (by decide)), wrap_lt y (Nat.lt_trans HY.out (by decide))]
      refine (times_any x y _ HX.out HY.out).mono ?_
      rintro e w2 ⟨rfl, hG2⟩
      have HP := Lib.hid (Nat.mod_lt (x * y) (show 0 < 4611686018427377339 by decide))
      generalize x * y % 4611686018427377339 = z at HP HV ⊢
      have e5 := wrap_i64' z (Nat.lt_trans HP.out (by decide))
      go_wp2
      go_ret2
      exact ⟨by rw [HV.out]; rfl, hG.trans hG2⟩
end Go.Proofs.YtjibmhmaoegcnaaDoor
namespace Go.Proofs.YtjibmhmaoegcnaaDoor
open Go.RowKit Go.Shelf
set_option linter.unusedVariables false
/-- A number of either sign as one of none. -/
def zig (x : Int) : Nat := if 0 ≤ x then 2 * x.toNat else 2 * (-x).toNat - 1
theorem xor_ones (a : Nat) (h : a < 18446744073709551616) : a ^^^ 18446744073709551615 = 18446744073709551615 - a := by
  have e := congrArg BitVec.toNat (BitVec.xor_allOnes (x := BitVec.ofNat 64 a))
  simp only [BitVec.toNat_xor, BitVec.toNat_ofNat, BitVec.toNat_allOnes, BitVec.toNat_not] at e
  have h2 : a % 2 ^ 64 = a := Nat.mod_eq_of_lt h
  rw [h2] at e
  exact e
theorem zig_eq (x : Int) (h0 : -9223372036854775808 ≤ x) (h1 : x < 9223372036854775808) : bits .xor .u64 (IntKind.u64.wrap (IntKind.u64.wrap x * 2)) (IntKind.u64.wrap (x / 9223372036854775808)) = (zig x : Int) := by
  unfold zig
  by_cases h : 0 ≤ x
  · have e1 : IntKind.u64.wrap (IntKind.u64.wrap x * 2) = ((2 * x.toNat : Nat) : Int) := by rw [IntKind.wrap_u64, IntKind.wrap_u64]; omega
    have e2 : IntKind.u64.wrap (x / 9223372036854775808) = ((0 : Nat) : Int) := by rw [IntKind.wrap_u64]; omega
    rw [e1, e2, bits_xor_u64_nat _ _ (by omega) (by omega), Nat.xor_zero, if_pos h]
  · have e1 : IntKind.u64.wrap (IntKind.u64.wrap x * 2) = ((18446744073709551616 - 2 * (-x).toNat : Nat) : Int) := by rw [IntKind.wrap_u64, IntKind.wrap_u64]; omega
    have e2 : IntKind.u64.wrap (x / 9223372036854775808) = ((18446744073709551615 : Nat) : Int) := by rw [IntKind.wrap_u64]; omega
    rw [e1, e2, bits_xor_u64_nat _ _ (by omega) (by omega), xor_ones _ (by omega), if_neg h]
    omega
theorem unsigned_any (x : Int) (w : World) (h0 : -9223372036854775808 ≤ x) (h1 : x < 9223372036854775808) :
    Calls Tryd.prog 60 #[.int .i64 x] w fun e w' => e = .returned (.int .u64 (zig x)) ∧ w' = w := by
  have HZ := Lib.hid (zig_eq x h0 h1); clear h0 h1
  go_enter Tryd.func60, Tryd.ntmps60
  go_wp2_with fail
  go_ret
  exact ⟨by rw [← HZ.out]; rfl, rfl⟩
/-- A number by sevens of bits. -/
def leb (n : Nat) : List UInt8 := if h : n < 128 then [UInt8.ofNat n] else UInt8.ofNat (n % 128 + 128) :: leb (n / 128)
termination_by n
decreasing_by omega
theorem leb_low (n : Nat) (h : n < 128) : leb n = [UInt8.ofNat n] := by rw [leb, dif_pos h]
theorem leb_high (n : Nat) (h : ¬ n < 128) : leb n = UInt8.ofNat (n % 128 + 128) :: leb (n / 128) := by rw [leb, dif_neg h]
/-- A row that was appended to: where the new one lies. -/
structure AppTo (w : World) (v : Value) (w' : World) (v' : Value) : Prop where
  gr : Gr w v.ownBlock w'
  lies : v'.ownBlock = v.ownBlock ∨ ∃ b, v'.ownBlock = some b ∧ w.heap.size ≤ b
theorem AppTo.refl (w : World) (v : Value) : AppTo w v w v := ⟨Gr.refl _ _, .inl rfl⟩
theorem AppTo.step {w w' w'' : World} {v v' v'' : Value} (h : AppTo w v w' v') (k : Gr w' v'.ownBlock w'') (hl : v''.ownBlock = v'.ownBlock ∨ v''.ownBlock = some w'.heap.size) : AppTo w v w'' v'' := by
  refine ⟨h.gr.on k fun b hb => ?_, ?_⟩
  · rcases h.lies with e | ⟨c, e, hc⟩
    · exact .inr (by rw [← e]; exact hb)
    · rw [hb] at e; cases e; exact .inl hc
  · rcases hl with e | e
    · rw [e]; exact h.lies
    · exact .inr ⟨_, e, h.gr.size⟩
theorem AppTo.alloc {w w' : World} {v v' : Value} (h : AppTo w v w' v') (o : Obj) : AppTo w v (w'.alloc o) v' := ⟨h.gr.alloc o, h.lies⟩
end Go.Proofs.YtjibmhmaoegcnaaDoor
namespace Go.Proofs.YtjibmhmaoegcnaaDoor
open Go.RowKit Go.Shelf
set_option linter.unusedVariables false
/-- Within the field. -/
def InF (x : Int) : Prop := 0 ≤ x ∧ x < 2305843009213688669
instance (x : Int) : Decidable (InF x) := by unfold InF; infer_instance
set_option maxHeartbeats 1000000 in
theorem outside1_any (x : Int) (w : World) :
    Calls Tryd.prog 89 #[.int .i64 x] w fun e w' => e = .returned (.bool (decide (¬ InF x))) ∧ w' = w := by
  by_cases h1 : x < 0
  · have e1 : decide (x < 0) = true := decide_eq_true h1
    rw [show decide (¬ InF x) = true from decide_eq_true (fun h => by have := h.1; omega)]
    clear h1
    go_enter Tryd.func89, Tryd.ntmps89
    go_wp2
    go_ret
    exact ⟨rfl, rfl⟩
  · have e1 : decide (x < 0) = false := decide_eq_false h1
    by_cases h2 : x < 2305843009213688669
    · have e3 : decide (x ≥ 2305843009213688669) = false := decide_eq_false (by omega)
      rw [show decide (¬ InF x) = false from decide_eq_false (fun h => h ⟨by omega, by omega⟩)]
      clear h1 h2
      go_enter Tryd.func89, Tryd.ntmps89
      go_wp2
      go_ret
      exact ⟨rfl, rfl⟩
    · have e3 : decide (x ≥ 2305843009213688669) = true := decide_eq_true (by omega)
      rw [show decide (¬ InF x) = true from decide_eq_true (fun h => h2 h.2)]
      clear h1 h2
      go_enter Tryd.func89, Tryd.ntmps89
      go_wp2
      go_ret
      exact ⟨rfl, rfl⟩
def Outs (l : List Int) : Bool := l.any (fun x => decide (¬ InF x))
set_option maxHeartbeats 1000000 in
theorem indexInts_any (b cap : Nat) (l : List Int) (w : World) (hl : l.length ≤ 1000) (hb : At w b 0 (l.map (Value.int .i64))) :
    Calls Tryd.prog 96 #[.slice (some ⟨b, 0, none⟩) l.length cap, .func (.func 89) #[] #[]] w fun e w' => (∃ r : Int, e = .returned (.int .i64 r) ∧ decide (r ≥ 0) = Outs l) ∧ w' = w := by
  go_enter Tryd.func96, Tryd.ntmps96
  go_wp2_with fail
  go_loopw [8] (fun i wr => ∃ m : Nat, m ≤ l.length ∧ i = .int .i64 m ∧ Outs (l.take m) = false ∧ wr = w) (fun i _ => (l.length - intOf i).toNat)
  case atStart => exact ⟨0, by omega, rfl, by simp [Outs], rfl⟩
  case round =>
    obtain ⟨m, hm, rfl, ho, rfl⟩ := hrel
    by_cases hlt : m < l.length
    · obtain ⟨x, hx⟩ : ∃ x, l[m]? = some x := ⟨l[m], by simp [hlt]⟩
      have hc := hb.get m (by simp; exact hlt)
      have hxm : l[m] = x := by rw [List.getElem?_eq_getElem hlt] at hx; exact Option.some.inj hx
      rw [Nat.zero_add, List.getElem_map, hxm] at hc
      have hsn : l.take (m + 1) = l.take m ++ [x] := by rw [← hxm]; exact (List.take_append_getElem hlt).symm
      by_cases h : InF x
      · have e1 : decide (¬ InF x) = false := decide_eq_false (fun k => k h)
        clear h
        go_wp2_with (refine (outside1_any x _).mono ?_; rintro e w' ⟨rfl, rfl⟩; rw [e1])
        go_roundw
        case rel => exact ⟨m + 1, by omega, int_eq (by omega), by unfold Outs at ho ⊢; rw [hsn, List.any_append, ho]; simp only [List.any_cons, List.any_nil, e1, Bool.or_self], trivial⟩
        case measure => simp [intOf]; omega
      · have e1 : decide (¬ InF x) = true := decide_eq_true h
        clear h
        go_wp2_with (refine (outside1_any x _).mono ?_; rintro e w' ⟨rfl, rfl⟩; rw [e1])
        go_ret
        refine ⟨⟨(m : Int), rfl, ?_⟩, rfl⟩
        rw [decide_eq_true (by omega)]
        unfold Outs
        exact (List.any_eq_true.2 ⟨x, by rw [← hxm]; exact List.getElem_mem hlt, e1⟩).symm
    · obtain rfl : m = l.length := by omega
      go_wp2
      go_ret
      exact ⟨⟨-1, rfl, by rw [List.take_length] at ho; rw [ho]; rfl⟩, rfl⟩
theorem containsInts_any (b cap : Nat) (l : List Int) (w : World) (hl : l.length ≤ 1000) (hb : At w b 0 (l.map (Value.int .i64))) :
    Calls Tryd.prog 88 #[.slice (some ⟨b, 0, none⟩) l.length cap, .func (.func 89) #[] #[]] w fun e w' => e = .returned (.bool (Outs l)) ∧ w' = w := by
  go_enter Tryd.func88, Tryd.ntmps88
  go_wp2_with (refine (indexInts_any b cap l _ hl hb).mono ?_; rintro e w' ⟨⟨r, rfl, hr⟩, rfl⟩)
  go_ret
  exact ⟨by rw [← hr]; rfl, rfl⟩
theorem outside_any (b cap : Nat) (l : List Int) (w : World) (hl : l.length ≤ 1000) (hb : At w b 0 (l.map (Value.int .i64))) :
    Calls Tryd.prog 67 #[.slice (some ⟨b, 0, none⟩) l.length cap] w fun e w' => e = .returned (.bool (Outs l)) ∧ w' = w := by
  go_enter Tryd.func67, Tryd.ntmps67
  go_wp2_with (refine (containsInts_any b cap l _ hl hb).mono ?_; rintro e w' ⟨rfl, rfl⟩)
  go_ret
  exact ⟨rfl, rfl⟩
theorem at_new (w : World) (cs : List Value) (T : TypeId) : At (w.alloc (.cells cs.toArray T)) w.heap.size 0 cs := (Blk.new w T cs).at0
def fieldErr (x : Int) : Int := if InF x then 0 else 1
theorem outs1 (x : Int) : Outs [x] = decide (¬ InF x) := by simp [Outs]
theorem outs2 (x y : Int) : Outs [x, y] = decide (¬ (InF x ∧ InF y)) := by
  by_cases h : InF x <;> by_cases k : InF y <;> simp [Outs, h, k]
theorem out1_any (x : Int) (w : World) : Calls Tryd.prog 67 #[.slice (some ⟨w.heap.size, 0, none⟩) 1 1] (w.alloc (.cells #[.int .i64 x] 3)) fun e w' => e = .returned (.bool (Outs [x])) ∧ Gr w none w' := by
  have h := outside_any w.heap.size 1 [x] (w.alloc (.cells #[.int .i64 x] 3)) (by simp) (at_new w [.int .i64 x] 3)
  refine h.mono ?_
  rintro e w' ⟨rfl, rfl⟩
  exact ⟨rfl, (Gr.refl w none).alloc _⟩
theorem out2_any (x y : Int) (w : World) : Calls Tryd.prog 67 #[.slice (some ⟨w.heap.size, 0, none⟩) 2 2] (w.alloc (.cells #[.int .i64 x, .int .i64 y] 3)) fun e w' => e = .returned (.bool (Outs [x, y])) ∧ Gr w none w' := by
  have h := outside_any w.heap.size 2 [x, y] (w.alloc (.cells #[.int .i64 x, .int .i64 y] 3)) (by simp) (at_new w [.int .i64 x, .int .i64 y] 3)
  refine h.mono ?_
  rintro e w' ⟨rfl, rfl⟩
  exact ⟨rfl, (Gr.refl w none).alloc _⟩
theorem fieldCheck_any (x : Int) (w : World) :
    Calls Tryd.prog 37 #[.int .i64 x] w fun e w' => e = .returned (.int .i64 (fieldErr x)) ∧ Gr w none w' := by
  by_cases h : InF x
  · have e1 : Outs [x] = false := by rw [outs1]; exact decide_eq_false (fun k => k h)
    rw [show fieldErr x = 0 from if_pos h]; clear h
    go_enter Tryd.func37, Tryd.ntmps37
    go_wp2_with (refine (out1_any x w).mono ?_; rintro e w' ⟨rfl, hG⟩; rw [e1])
    go_ret
    exact ⟨rfl, hG⟩
  · have e1 : Outs [x] = true := by rw [outs1]; exact decide_eq_true h
    rw [show fieldErr x = 1 from if_neg h]; clear h
    go_enter Tryd.func37, Tryd.ntmps37
    go_wp2_with (refine (out1_any x w).mono ?_; rintro e w' ⟨rfl, hG⟩; rw [e1])
    go_ret
    exact ⟨rfl, hG⟩
theorem product_any (a b : Nat) (w : World) (ha : a < 2305843009213688669) (hb : b < 2305843009213688669) :
    Calls Tryd.prog 93 #[.int .i64 a, .int .i64 b] w fun e w' => e = .returned (.int .i64 ((a * b % 2305843009213688669 : Nat) : Int)) ∧ Gr w none w' := by
  have hq := mul_lt_of a b _ ha hb (by decide)
  have hr := Nat.mod_lt (a * b) (show 0 < 18446744073709551616 by decide)
  have hbk := div_back a b
  have ha2 : a < 18446744073709551616 := Nat.lt_trans ha (by decide)
  have hb2 : b < 18446744073709551616 := Nat.lt_trans hb (by decide)
  have hz := Nat.mod_lt (a * b) (show 0 < 2305843009213688669 by decide)
  obtain ⟨c, hc⟩ : ∃ c, c = a * b := ⟨_, rfl⟩
  rw [← hc] at hq hr hbk hz ⊢
  obtain ⟨z, hze⟩ : ∃ z, z = c % 2305843009213688669 := ⟨_, rfl⟩
  rw [← hze] at hz ⊢
  have HQ := Lib.hid hq; have HR := Lib.hid hr; have HBK := Lib.hid hbk; have HC := Lib.hid hc; have HA2 := Lib.hid ha2; have HB2 := Lib.hid hb2; have HZ := Lib.hid hz; have HE := Lib.hid hze
  clear hq hr hbk ha hb hc ha2 hb2 hz hze
  have e5 := wrap_i64' z (Nat.lt_trans HZ.out (by decide))
  go_enter Tryd.func93, Tryd.ntmps93
  go_wp2_with fail
  rw [wrap_lt a HA2.out, wrap_lt b HB2.out]
  refine (Tryd.bits_Mul64 a b HA2.out HB2.out _).mono ?_
  rintro r w' ⟨rfl, rfl⟩
  rw [← HC.out]
  obtain ⟨x, hx⟩ : ∃ x, x = c / 18446744073709551616 := ⟨_, rfl⟩
  obtain ⟨y, hy⟩ : ∃ y, y = c % 18446744073709551616 := ⟨_, rfl⟩
  rw [← hx, ← hy]
  have HX := Lib.hid hx; have HY := Lib.hid hy; clear hx hy
  go_wp2_with fail
  refine (div64_dQ x y _ (by rw [HX.out]; exact HQ.out) (by rw [HY.out]; exact HR.out)).mono ?_
  rintro r w2 ⟨rfl, hG⟩
  rw [HX.out, HY.out, HBK.out, ← HE.out]
  go_wp2
  go_ret
  exact ⟨rfl, hG⟩
def fMulV (a b : Int) : Int × Int := if InF a ∧ InF b then (((a.toNat * b.toNat % 2305843009213688669 : Nat) : Int), 0) else (0, 1)
def fAddV (a b : Int) : Int × Int := if InF a ∧ InF b then ((((a.toNat + b.toNat) % 2305843009213688669 : Nat) : Int), 0) else (0, 1)
theorem fieldMul_any (a b : Int) (w : World) :
    Calls Tryd.prog 70 #[.int .i64 a, .int .i64 b] w fun e w' => e = .returned (.tuple #[.int .i64 (fMulV a b).1, .int .i64 (fMulV a b).2]) ∧ Gr w none w' := by
  by_cases h : InF a ∧ InF b
  · have e1 : Outs [a, b] = false := by rw [outs2]; exact decide_eq_false (fun k => k h)
    obtain ⟨x, rfl⟩ : ∃ x : Nat, a = x := ⟨a.toNat, by have := h.1.1; omega⟩
    obtain ⟨y, rfl⟩ : ∃ y : Nat, b = y := ⟨b.toNat, by have := h.2.1; omega⟩
    have HX := Lib.hid (show x < 2305843009213688669 by have := h.1.2; omega)
    have HY := Lib.hid (show y < 2305843009213688669 by have := h.2.2; omega)
    rw [show fMulV x y = (((x * y % 2305843009213688669 : Nat) : Int), 0) from if_pos h]
    clear h
    go_enter Tryd.func70, Tryd.ntmps70
    go_wp2_with (refine (out2_any x y w).mono ?_; rintro e w' ⟨rfl, hG⟩; rw [e1])
    refine (product_any x y _ HX.out HY.out).mono ?_
    rintro r w2 ⟨rfl, hG2⟩
    go_wp2
    go_ret2
    exact ⟨rfl, hG.trans hG2⟩
  · have e1 : Outs [a, b] = true := by rw [outs2]; exact decide_eq_true h
    rw [show fMulV a b = (0, 1) from if_neg h]; clear h
    go_enter Tryd.func70, Tryd.ntmps70
    go_wp2_with (refine (out2_any a b w).mono ?_; rintro e w' ⟨rfl, hG⟩; rw [e1])
    go_ret2
    exact ⟨rfl, hG⟩
theorem fieldAdd_any (a b : Int) (w : World) :
    Calls Tryd.prog 71 #[.int .i64 a, .int .i64 b] w fun e w' => e = .returned (.tuple #[.int .i64 (fAddV a b).1, .int .i64 (fAddV a b).2]) ∧ Gr w none w' := by
  by_cases h : InF a ∧ InF b
  · have e1 : Outs [a, b] = false := by rw [outs2]; exact decide_eq_false (fun k => k h)
    obtain ⟨x, rfl⟩ : ∃ x : Nat, a = x := ⟨a.toNat, by have := h.1.1; omega⟩
    obtain ⟨y, rfl⟩ : ∃ y : Nat, b = y := ⟨b.toNat, by have := h.2.1; omega⟩
    have hx : x < 2305843009213688669 := by have := h.1.2; omega
    have hy : y < 2305843009213688669 := by have := h.2.2; omega
    have e7 : (wrap64 ((x : Int) + y)).tmod 2305843009213688669 = (((x + y) % 2305843009213688669 : Nat) : Int) := by
      rw [show wrap64 ((x : Int) + y) = ((x + y : Nat) : Int) by unfold wrap64; omega]
      rfl
    have hv : fAddV x y = ((((x + y) % 2305843009213688669 : Nat) : Int), 0) := if_pos h
    rw [hv]; clear hv h hx hy
    go_enter Tryd.func71, Tryd.ntmps71
    go_wp2_with (refine (out2_any x y w).mono ?_; rintro e w' ⟨rfl, hG⟩; rw [e1])
    go_ret2
    exact ⟨by rw [show (((x + y) % 2305843009213688669 : Nat) : Int) = ((x : Int) + y) % 2305843009213688669 by simp]; rfl, hG⟩
  · have e1 : Outs [a, b] = true := by rw [outs2]; exact decide_eq_true h
    rw [show fAddV a b = (0, 1) from if_neg h]; clear h
    go_enter Tryd.func71, Tryd.ntmps71
    go_wp2_with (refine (out2_any a b w).mono ?_; rintro e w' ⟨rfl, hG⟩; rw [e1])
    go_ret2
    exact ⟨rfl, hG⟩
end Go.Proofs.YtjibmhmaoegcnaaDoor
namespace Go.Proofs.YtjibmhmaoegcnaaDoor
open Go.RowKit Go.Shelf
set_option linter.unusedVariables false
theorem or_128 : ∀ a : Fin 256, bits .or .u8 ((a.val : Nat) : Int) 128 = ((a.val % 128 + 128 : Nat) : Int) := by decide +kernel
theorem high_val (m : Nat) (y : UInt8) (hy : y = UInt8.ofNat (m % 128 + 128)) : Value.int .u8 (bits .or .u8 ((m : Int) % 256) 128) = B8 y := by
  subst hy
  have h := or_128 ⟨m % 256, Nat.mod_lt _ (by decide)⟩
  simp only at h
  rw [show ((m : Int) % 256) = ((m % 256 : Nat) : Int) by simp, h]
  unfold B8
  refine int_eq ?_
  rw [show (UInt8.ofNat (m % 128 + 128)).toNat = (m % 128 + 128) % 256 from UInt8.toNat_ofNat']
  omega
theorem leb_pos (n : Nat) : 0 < (leb n).length := by
  rw [leb]; split <;> simp
set_option maxHeartbeats 1000000 in
set_option maxRecDepth 100000 in
theorem numeral_any (B : Nat) (v : Value) (pre : List UInt8) (n : Nat) (w : World) (hown : OwnB w B v pre) (hB : B ≤ w.heap.size) (hlen : pre.length + (leb n).length ≤ 2000000) (hn : n < 18446744073709551616) :
    Calls Tryd.prog 59 #[v, .int .u64 n] w fun e w' => ∃ v', e = .returned v' ∧ OwnB w' B v' (pre ++ leb n) ∧ v' ≠ .slice none 0 0 ∧ AppTo w v w' v' := by
  obtain ⟨i0, hi, hz0, hz1, hz2⟩ := info_u8 info_u8_here
  have HN := Lib.hid hn; clear hn
  go_enter Tryd.func59, Tryd.ntmps59
  go_wp2
  go_loopw [0, 1] (fun b i wr => ∃ (done : List UInt8) (m : Nat), i = .int .u64 m ∧ done ++ leb m = leb n ∧ OwnB wr B b (pre ++ done) ∧ AppTo w v wr b ∧ m ≤ n) (fun _ i _ => (intOf i).toNat)
  case atStart => exact ⟨[], n, rfl, rfl, by simpa using hown, AppTo.refl _ _, Nat.le_refl _⟩
  case round =>
    obtain ⟨done, m, rfl, hd, hown, hA, hm⟩ := hrel
    have hln : done.length + (leb m).length = (leb n).length := by rw [← hd, List.length_append]
    have hlp := leb_pos m
    have HLN := Lib.hid (show (pre ++ done).length + 1 ≤ 2000000 by rw [List.length_append]; omega)
    have hsz := hA.gr.size
    by_cases h : m < 128
    · obtain ⟨y, hy⟩ : ∃ y, y = UInt8.ofNat m := ⟨_, rfl⟩
      have hb8 : Value.int .u8 (m : Int) = B8 y := by
        subst hy; unfold B8; refine int_eq ?_
        rw [show (UInt8.ofNat m).toNat = m % 256 from UInt8.toNat_ofNat']; omega
      have hat : At (wr.alloc (.cells #[.int .u8 (m : Int)] 5)) wr.heap.size 0 ([y].map B8) := by
        show At _ _ 0 [B8 y]
        rw [← hb8]; exact at_new wr [_] _
      have HE := Lib.hid (show pre ++ done ++ [y] = pre ++ leb n by rw [List.append_assoc, ← hd, leb_low m h, hy])
      clear hb8 hd hln hlp hlen hy
      go_wp2_with (at_builtin; refine wpList_append_own_at _ rfl _ _ 28 rfl B 5 i0 (.int .u8 0) 1 1 Tryd.underlying28 hi hz0 hz1 hz2 rfl (by decide) u0 _ _ rfl (hown.alloc _) ⟨wr.heap.size, 0, none⟩ 1 1 ([y].map B8) rfl rfl (OwnB.at_of hat) (ones_B8 _) (by have := HLN.out; unfold maxLen; omega) (by have := HLN.out; omega) (by rw [World.size_alloc]; omega) ?_; intro v' w1 hown' hgrow hnil hlies)
      go_ret
      exact ⟨v', rfl, by rw [← HE.out]; exact OwnB.of_append hown', fun e => by simpa using (hnil.1 e).2, (hA.alloc _).step hgrow hlies⟩
    · obtain ⟨y, hy⟩ : ∃ y, y = UInt8.ofNat (m % 128 + 128) := ⟨_, rfl⟩
      have hb8 := high_val m y hy
      have hat : At (wr.alloc (.cells #[.int .u8 (bits .or .u8 ((m : Int) % 256) 128)] 5)) wr.heap.size 0 ([y].map B8) := by
        show At _ _ 0 [B8 y]
        rw [← hb8]; exact at_new wr [_] _
      have HE := Lib.hid (show (done ++ [y]) ++ leb (m / 128) = leb n by rw [← hd, leb_high m h, hy, List.append_assoc]; rfl)
      clear hb8 hd hln hlp hlen hy
      go_wp2_with (at_builtin; refine wpList_append_own_at _ rfl _ _ 28 rfl B 5 i0 (.int .u8 0) 1 1 Tryd.underlying28 hi hz0 hz1 hz2 rfl (by decide) u0 _ _ rfl (hown.alloc _) ⟨wr.heap.size, 0, none⟩ 1 1 ([y].map B8) rfl rfl (OwnB.at_of hat) (ones_B8 _) (by have := HLN.out; unfold maxLen; omega) (by have := HLN.out; omega) (by rw [World.size_alloc]; omega) ?_; intro v' w1 hown' hgrow hnil hlies)
      go_roundw
      case rel => exact ⟨done ++ [y], m / 128, int_eq (by omega), HE.out, by rw [← List.append_assoc]; exact OwnB.of_append hown', (hA.alloc _).step hgrow hlies, by omega⟩
      case measure => simp [intOf]; omega
end Go.Proofs.YtjibmhmaoegcnaaDoor
namespace Go.Proofs.YtjibmhmaoegcnaaDoor
open Go.RowKit
set_option linter.unusedVariables false
/-- The integer of an unsigned form. -/
def zag (n : Nat) : Int := if n % 2 = 0 then ((n / 2 : Nat) : Int) else -((n / 2 : Nat) : Int) - 1
theorem zag_zig (x : Int) : zag (zig x) = x := by
  unfold zag zig
  by_cases h : 0 ≤ x
  · rw [if_pos h, if_pos (by omega)]; omega
  · rw [if_neg h, if_neg (by omega)]; omega
theorem zig_zag (n : Nat) : zig (zag n) = n := by
  unfold zag zig
  by_cases h : n % 2 = 0
  · rw [if_pos h, if_pos (by omega)]; omega
  · rw [if_neg h, if_neg (by omega)]; omega
theorem zig_lt (x : Int) (h0 : -9223372036854775808 ≤ x) (h1 : x < 9223372036854775808) : zig x < 18446744073709551616 := by
  unfold zig; split <;> omega
theorem zag_lo (n : Nat) (h : n < 18446744073709551616) : -9223372036854775808 ≤ zag n ∧ zag n < 9223372036854775808 := by
  unfold zag; split <;> omega
/-- A value of the codec. -/
inductive Tree where
  | int (n : Int)
  | text (s : List UInt8)
  | list (l : List Tree)
/-- A numeral, from its i-th byte on. -/
def numD : Nat → List UInt8 → Option (Nat × List UInt8)
  | _, [] => none
  | i, c :: l => if (i = 0 ∨ c.toNat ≠ 0) ∧ (i < 9 ∨ c.toNat ≤ 1) then
      if c.toNat < 128 then some (c.toNat, l) else
        match numD (i + 1) l with
        | some (u, r) => some (c.toNat - 128 + 128 * u, r)
        | none => none
      else none
/-- A thing n times. -/
def rep {α : Type} (f : List UInt8 → Option (α × List UInt8)) : Nat → List UInt8 → Option (List α × List UInt8)
  | 0, l => some ([], l)
  | n + 1, l =>
    match f l with
    | none => none
    | some (t, r) =>
      match rep f n r with
      | none => none
      | some (ts, r') => some (t :: ts, r')
/-- A length: the number of bytes or things that follow. -/
def lenD (l : List UInt8) : Option (Nat × List UInt8) :=
  match numD 0 l with
  | none => none
  | some (n, r) => if n ≤ r.length then some (n, r) else none
/-- A value that may hold so many lists within each other. -/
def valD : Nat → List UInt8 → Option (Tree × List UInt8)
  | _, [] => none
  | d, c :: l =>
    if c.toNat = 1 then
      match numD 0 l with
      | none => none
      | some (u, r) => some (.int (zag u), r)
    else if c.toNat = 2 then
      match lenD l with
      | none => none
      | some (n, r) => some (.text (r.take n), r.drop n)
    else if c.toNat = 3 then
      match d with
      | 0 => none
      | d + 1 =>
        match lenD l with
        | none => none
        | some (n, r) =>
          match rep (valD d) n r with
          | none => none
          | some (ts, r') => some (.list ts, r')
    else none
theorem valD_cons (d : Nat) (c : UInt8) (l : List UInt8) : valD d (c :: l) =
    if c.toNat = 1 then
      match numD 0 l with
      | none => none
      | some (u, r) => some (.int (zag u), r)
    else if c.toNat = 2 then
      match lenD l with
      | none => none
      | some (n, r) => some (.text (r.take n), r.drop n)
    else if c.toNat = 3 then
      match d with
      | 0 => none
      | d + 1 =>
        match lenD l with
        | none => none
        | some (n, r) =>
          match rep (valD d) n r with
          | none => none
          | some (ts, r') => some (.list ts, r')
    else none := by cases d <;> rfl
theorem numD_suffix : ∀ (l : List UInt8) (i u : Nat) (r : List UInt8), numD i l = some (u, r) → r.length < l.length
  | [], _, _, _, h => by simp [numD] at h
  | c :: l, i, u, r, h => by
    unfold numD at h
    split at h
    · split at h
      · cases h; simp
      · cases hn : numD (i + 1) l with
        | none => simp [hn] at h
        | some p =>
          obtain ⟨v, s⟩ := p
          simp [hn] at h
          have := numD_suffix l (i + 1) v s hn
          obtain ⟨_, rfl⟩ := h
          simp; omega
    · simp at h
theorem numD_lt : ∀ (l : List UInt8) (i u : Nat) (r : List UInt8), i ≤ 9 → numD i l = some (u, r) → u < 2 * 128 ^ (9 - i)
  | [], _, _, _, _, h => by simp [numD] at h
  | c :: l, i, u, r, hi, h => by
    unfold numD at h
    have hc := c.toNat_lt
    split at h
    · rename_i hw
      rcases Nat.lt_or_ge i 9 with h9 | h9
      · have hp : (128 : Nat) ^ (9 - i) = 128 ^ (9 - (i + 1)) * 128 := by rw [← Nat.pow_succ]; congr 1; omega
        have hq : 0 < 128 ^ (9 - (i + 1)) := Nat.pow_pos (by decide)
        rw [hp]
        split at h
        · cases h; omega
        · cases hn : numD (i + 1) l with
          | none => simp [hn] at h
          | some p =>
            obtain ⟨v, s⟩ := p
            simp [hn] at h
            obtain ⟨rfl, rfl⟩ := h
            have g := numD_lt l (i + 1) v s (by omega) hn
            omega
      · obtain rfl : i = 9 := by omega
        have h1 : c.toNat ≤ 1 := by omega
        rw [if_pos (by omega)] at h
        cases h; simp; omega
    · simp at h
theorem numD_lt0 {l r : List UInt8} {u : Nat} (h : numD 0 l = some (u, r)) : u < 18446744073709551616 := by
  have := numD_lt l 0 u r (by omega) h
  have e : 2 * 128 ^ (9 - 0) = 18446744073709551616 := by decide
  omega
theorem lenD_suffix {l r : List UInt8} {n : Nat} (h : lenD l = some (n, r)) : r.length < l.length ∧ n ≤ r.length := by
  unfold lenD at h
  cases hn : numD 0 l with
  | none => simp [hn] at h
  | some p =>
    obtain ⟨v, s⟩ := p
    simp [hn] at h
    obtain ⟨h1, rfl, rfl⟩ := h
    exact ⟨numD_suffix l 0 v s hn, h1⟩
/-- Numerals are read back. -/
theorem numD_leb (n : Nat) : ∀ (i : Nat) (r : List UInt8), i ≤ 9 → n * 128 ^ i < 18446744073709551616 → i = 0 ∨ n ≠ 0 → numD i (leb n ++ r) = some (n, r) := by
  induction n using Nat.strongRecOn with
  | ind n ih =>
    intro i r hi hlt h0
    have h9 : i = 9 → n ≤ 1 := by
      intro e; subst e
      have : (128 : Nat) ^ 9 = 9223372036854775808 := by decide
      rw [this] at hlt; omega
    by_cases h : n < 128
    · rw [leb_low n h]
      have hc : (UInt8.ofNat n).toNat = n := by rw [UInt8.toNat_ofNat']; omega
      simp only [List.singleton_append, numD, hc]
      rw [if_pos ⟨h0, by omega⟩, if_pos h]
    · rw [leb_high n h]
      have hc : (UInt8.ofNat (n % 128 + 128)).toNat = n % 128 + 128 := by rw [UInt8.toNat_ofNat']; omega
      have hi9 : i < 9 := by
        rcases Nat.lt_or_ge i 9 with g | g
        · exact g
        · have := h9 (by omega); omega
      have g : n / 128 * 128 ^ (i + 1) < 18446744073709551616 := by
        refine Nat.lt_of_le_of_lt ?_ hlt
        rw [Nat.pow_succ, Nat.mul_comm (128 ^ i) 128, ← Nat.mul_assoc]
        exact Nat.mul_le_mul_right _ (by omega)
      simp only [List.cons_append, numD, hc]
      rw [if_pos ⟨by omega, by omega⟩, if_neg (by omega), ih (n / 128) (by omega) (i + 1) r (by omega) g (by omega)]
      simp only [Option.some.injEq, Prod.mk.injEq, and_true]
      omega
/-- A part of an acknowledgement. -/
inductive Leaf where
  | int (n : Int)
  | text (s : List UInt8)
def Leaf.tree : Leaf → Tree
  | .int n => .int n
  | .text s => .text s
def Leaf.k : Leaf → Int
  | .int _ => 1
  | .text _ => 2
def Leaf.n : Leaf → Int
  | .int n => n
  | .text _ => 0
def Leaf.s : Leaf → ByteArray
  | .int _ => ⟨#[]⟩
  | .text s => ⟨s.toArray⟩
/-- Its four cells. -/
def Leaf.cells (x : Leaf) : List Value := [.int .i64 x.k, .int .i64 x.n, .string x.s, .slice none 0 0]
/-- Its bytes. -/
def Leaf.enc : Leaf → List UInt8
  | .int n => 1 :: leb (zig n)
  | .text s => 2 :: (leb s.length ++ s)
/-- The bytes of a list of leaves. -/
def encF (ls : List Leaf) : List UInt8 := 3 :: (leb ls.length ++ ls.flatMap Leaf.enc)
/-- Does a leaf fit into the machine? -/
def Leaf.ok : Leaf → Prop
  | .int n => -9223372036854775808 ≤ n ∧ n < 9223372036854775808
  | .text s => s.length ≤ 1000
theorem lenD_leb (n : Nat) (r : List UInt8) (h : n < 18446744073709551616) (hr : n ≤ r.length) : lenD (leb n ++ r) = some (n, r) := by
  unfold lenD
  rw [numD_leb n 0 r (by omega) (by simpa using h) (.inl rfl)]
  simp [hr]
theorem valD_leaf (d : Nat) (x : Leaf) (r : List UInt8) (h : x.ok) : valD d (x.enc ++ r) = some (x.tree, r) := by
  cases x with
  | int n =>
    simp only [Leaf.enc, List.cons_append, Leaf.tree]
    rw [valD_cons, if_pos (by decide), numD_leb _ 0 r (by omega) (by simpa using zig_lt n h.1 h.2) (.inl rfl)]
    simp [zag_zig]
  | text s =>
    have hs : s.length ≤ 1000 := h
    simp only [Leaf.enc, List.cons_append, Leaf.tree, List.append_assoc]
    rw [valD_cons, if_neg (by decide), if_pos (by decide), lenD_leb _ _ (by omega) (by simp)]
    simp
theorem rep_leaf (d : Nat) : ∀ (ls : List Leaf) (r : List UInt8), (∀ x ∈ ls, x.ok) → rep (valD d) ls.length (ls.flatMap Leaf.enc ++ r) = some (ls.map Leaf.tree, r)
  | [], r, h => by simp [rep]
  | x :: ls, r, h => by
    simp only [List.length_cons, List.flatMap_cons, List.append_assoc, rep]
    rw [valD_leaf d x _ (h x (by simp))]
    simp only
    rw [rep_leaf d ls r fun y hy => h y (by simp [hy])]
    rfl
theorem enc_len (x : Leaf) : 1 ≤ x.enc.length := by cases x <;> simp [Leaf.enc]
theorem flat_enc_len : ∀ ls : List Leaf, ls.length ≤ (ls.flatMap Leaf.enc).length
  | [] => by simp
  | x :: ls => by
    have := flat_enc_len ls
    have := enc_len x
    simp only [List.flatMap_cons, List.length_append, List.length_cons]; omega
theorem valD_list (d : Nat) (ls : List Leaf) (r : List UInt8) (h : ∀ x ∈ ls, x.ok) (hl : ls.length ≤ 1000) : valD (d + 1) (encF ls ++ r) = some (.list (ls.map Leaf.tree), r) := by
  unfold encF
  rw [List.cons_append, List.append_assoc, valD_cons, if_neg (by decide), if_neg (by decide), if_pos (by decide)]
  rw [lenD_leb _ _ (by omega) (by have := flat_enc_len ls; simp only [List.length_append]; omega)]
  simp only
  rw [rep_leaf d ls r h]
theorem leb_len (n : Nat) : ∀ k, n < 128 ^ k → (leb n).length ≤ max k 1 := by
  induction n using Nat.strongRecOn with
  | ind n ih =>
    intro k hk
    by_cases h : n < 128
    · rw [leb_low n h]; simp; omega
    · rw [leb_high n h]
      cases k with
      | zero => simp at hk; omega
      | succ k =>
        have := ih (n / 128) (by omega) k (by rw [Nat.pow_succ] at hk; omega)
        have hk1 : 1 ≤ k := by
          cases k with
          | zero => simp at hk; omega
          | succ k => omega
        simp only [List.length_cons]; omega
theorem leb_len10 (n : Nat) (h : n < 18446744073709551616) : (leb n).length ≤ 10 := leb_len n 10 (Nat.lt_trans h (by decide))
theorem enc_le (x : Leaf) (h : x.ok) : x.enc.length ≤ 1011 := by
  cases x with
  | int n =>
    have := leb_len10 _ (zig_lt n h.1 h.2)
    simp only [Leaf.enc, List.length_cons]; omega
  | text s =>
    have hs : s.length ≤ 1000 := h
    have := leb_len10 s.length (by omega)
    simp only [Leaf.enc, List.length_cons, List.length_append]; omega
theorem flat_enc_le : ∀ ls : List Leaf, (∀ x ∈ ls, x.ok) → (ls.flatMap Leaf.enc).length ≤ 1011 * ls.length
  | [], _ => by simp
  | x :: ls, h => by
    have := flat_enc_le ls fun y hy => h y (by simp [hy])
    have := enc_le x (h x (by simp))
    simp only [List.flatMap_cons, List.length_append, List.length_cons]; omega
theorem cells_length (x : Leaf) : x.cells.length = 4 := rfl
end Go.Proofs.YtjibmhmaoegcnaaDoor
namespace Go.Proofs.YtjibmhmaoegcnaaDoor
open Go.RowKit Go.Shelf
set_option linter.unusedVariables false
theorem bits_xor_i64 (a b : Int) : bits .xor .i64 a b = IntKind.i64.wrap (((BitVec.ofInt 64 a ^^^ BitVec.ofInt 64 b).toNat : Nat) : Int) := rfl
theorem zag_eq (n : Nat) (h : n < 18446744073709551616) : bits .xor .i64 (wrap64 ((n : Int) / 2)) (-((n : Int) % 2)) = zag n := by
  unfold zag
  have e1 : wrap64 ((n : Int) / 2) = ((n / 2 : Nat) : Int) := by unfold wrap64; omega
  rw [e1, bits_xor_i64, IntKind.wrap_i64]
  rcases Nat.mod_two_eq_zero_or_one n with e | e
  · rw [if_pos e, show -((n : Int) % 2) = 0 by omega]
    have : ((BitVec.ofInt 64 ((n / 2 : Nat) : Int) ^^^ BitVec.ofInt 64 0).toNat : Int) = ((n / 2 : Nat) : Int) := by
      rw [BitVec.ofInt_natCast]; simp; omega
    rw [this]; omega
  · rw [if_neg (by omega), show -((n : Int) % 2) = -1 by omega]
    have g : BitVec.ofInt 64 (-1) = BitVec.allOnes 64 := by decide
    have : ((BitVec.ofInt 64 ((n / 2 : Nat) : Int) ^^^ BitVec.ofInt 64 (-1)).toNat : Int) = ((18446744073709551615 - n / 2 : Nat) : Int) := by
      rw [BitVec.ofInt_natCast, g, BitVec.xor_allOnes, BitVec.toNat_not, BitVec.toNat_ofNat, Nat.mod_eq_of_lt (by omega : n / 2 < 2 ^ 64)]
    rw [this]; omega
theorem and_one (n : Nat) (h : n < 18446744073709551616) : bits .and .u64 (n : Int) 1 = ((n % 2 : Nat) : Int) := by
  rw [show (1 : Int) = ((1 : Nat) : Int) from rfl, bits_and_u64_nat _ _ (by omega) (by omega), Nat.and_one_is_mod]
theorem signed_any (n : Nat) (w : World) (h : n < 18446744073709551616) :
    Calls Tryd.prog 75 #[.int .u64 n] w fun e w' => e = .returned (.int .i64 (zag n)) ∧ w' = w := by
  have HZ := Lib.hid (zag_eq n h)
  have ha := and_one n h
  clear h
  go_enter Tryd.func75, Tryd.ntmps75
  go_wp2_with fail
  go_ret
  exact ⟨by rw [← HZ.out]; rfl, rfl⟩
set_option maxHeartbeats 1000000 in
set_option maxRecDepth 100000 in
theorem formed_leaf (x : Leaf) (w : World) :
    Calls Tryd.prog 57 #[.agg #[.int .i64 x.k, .int .i64 x.n, .string x.s, .slice none 0 0]] w fun e w' => e = .returned (.tuple #[.int .i64 0, .bool true]) ∧ Gr w none w' := by
  cases x with
  | int n =>
    show Calls Tryd.prog 57 #[.agg #[.int .i64 1, .int .i64 n, .string ⟨#[]⟩, .slice none 0 0]] w _
    go_enter Tryd.func57, Tryd.ntmps57
    go_wp2_with fail
    all_goals go_ret2
    all_goals exact ⟨rfl, ((Gr.refl _ _).alloc _).alloc _⟩
  | text s =>
    show Calls Tryd.prog 57 #[.agg #[.int .i64 2, .int .i64 0, .string ⟨s.toArray⟩, .slice none 0 0]] w _
    go_enter Tryd.func57, Tryd.ntmps57
    go_wp2_with fail
    all_goals go_ret2
    all_goals exact ⟨rfl, ((Gr.refl _ _).alloc _).alloc _⟩
theorem flat_cells (ls : List Leaf) (i : Nat) (h : i < ls.length) (j : Nat) (hj : j < 4) : (ls.flatMap Leaf.cells)[4 * i + j]? = (ls[i]).cells[j]? := by
  induction ls generalizing i with
  | nil => simp at h
  | cons x ls ih =>
    rw [List.flatMap_cons]
    cases i with
    | zero =>
      rw [List.getElem?_append_left (by rw [cells_length]; omega)]
      simp
    | succ i =>
      rw [List.getElem?_append_right (by rw [cells_length]; omega), cells_length, show 4 * (i + 1) + j - 4 = 4 * i + j by omega, ih i (by simpa using h)]
      simp
theorem flat_cells_length (ls : List Leaf) : (ls.flatMap Leaf.cells).length = 4 * ls.length := by
  induction ls with
  | nil => rfl
  | cons x ls ih => rw [List.flatMap_cons, List.length_append, ih, cells_length, List.length_cons]; omega
theorem leaf_cell {w : World} {b : Nat} {ls : List Leaf} (h : At w b 0 (ls.flatMap Leaf.cells)) (i : Nat) (hi : i < ls.length) (j : Nat) (hj : j < 4) : w.cell? ⟨b, i * 4 + j, none⟩ = (ls[i]).cells[j]? := by
  have e := flat_cells ls i hi j hj
  have hv : (ls[i]).cells[j]? = some (ls[i]).cells[j] := List.getElem?_eq_getElem (by rw [cells_length]; exact hj)
  rw [hv] at e ⊢
  obtain ⟨hl, e⟩ := List.getElem?_eq_some_iff.1 e
  have := h (4 * i + j) hl
  rw [Nat.zero_add] at this
  rw [show i * 4 + j = 4 * i + j by omega, this, e]
set_option maxHeartbeats 1000000 in
set_option maxRecDepth 100000 in
theorem formed_list (ls : List Leaf) (b cap : Nat) (w : World) (hb : b < w.heap.size) (hA : At w b 0 (ls.flatMap Leaf.cells)) (h0 : 0 < ls.length) (h1 : ls.length ≤ 1000) :
    Calls Tryd.prog 57 #[.agg #[.int .i64 3, .int .i64 0, .string ⟨#[]⟩, .slice (some ⟨b, 0, none⟩) ls.length cap]] w fun e w' => e = .returned (.tuple #[.int .i64 1, .bool true]) ∧ Gr w none w' := by
  have hne : ((ls.length : Int) == 0) = false := by rw [beq_eq_false_iff_ne]; omega
  go_enter Tryd.func57, Tryd.ntmps57
  go_wp2_with fail
  go_loopw [2, 57] (fun d i wr => ∃ m : Nat, m ≤ ls.length ∧ i = .int .i64 m ∧ d = .int .i64 0 ∧ Gr w none wr) (fun _ i _ => (ls.length - intOf i).toNat)
  case atStart => exact ⟨0, by omega, rfl, rfl, ((Gr.refl _ _).alloc _).alloc _⟩
  case round =>
    obtain ⟨m, hm, rfl, rfl, hG⟩ := hrel
    by_cases hlt : m < ls.length
    · have hR := leaf_cell (hA.grown hG (by simp)) m hlt
      have c0 : wr.cell? ⟨b, m * 4, none⟩ = some (.int .i64 (ls[m]).k) := hR 0 (by omega)
      have c1 : wr.cell? ⟨b, m * 4 + 1, none⟩ = some (.int .i64 (ls[m]).n) := hR 1 (by omega)
      have c2 : wr.cell? ⟨b, m * 4 + 2, none⟩ = some (.string (ls[m]).s) := hR 2 (by omega)
      have c3 : wr.cell? ⟨b, m * 4 + 3, none⟩ = some (.slice none 0 0) := hR 3 (by omega)
      clear hR
      go_wp2_with (go_at_call 57; refine (formed_leaf (ls[m]) _).mono ?_; rintro e w' ⟨rfl, hG'⟩)
      go_roundw
      case rel => exact ⟨m + 1, by omega, int_eq (by omega), rfl, (hG.alloc _).trans hG'⟩
      case measure => simp [intOf]; omega
    · obtain rfl : m = ls.length := by omega
      go_wp2
      go_ret2
      exact ⟨rfl, hG⟩
end Go.Proofs.YtjibmhmaoegcnaaDoor
namespace Go.Proofs.YtjibmhmaoegcnaaDoor
open Go.RowKit Go.Shelf
set_option linter.unusedVariables false
/-- What the reader panics with. -/
def codePanic : List PanicEntry := [{ v := .iface 30 (.int .i64 10), recovered := false }]
theorem want_true (p : Value) (w : World) : Calls Tryd.prog 52 #[p, .bool true] w fun e w' => e = .returned (.tuple #[]) ∧ w' = w := by
  go_enter Tryd.func52, Tryd.ntmps52
  go_wp2_with fail
  go_end0
  exact ⟨rfl, rfl⟩
theorem want_false (p : Value) (w : World) : Calls Tryd.prog 52 #[p, .bool false] w fun e w' => e = .panicked codePanic ∧ w' = w := by
  go_enter Tryd.func52, Tryd.ntmps52
  go_wp2_with fail
  exact ⟨rfl, rfl, rfl⟩
/-- The reader in block rb still has the bytes l to read; RN: its slice may be nil. -/
structure RD (w : World) (rb db : Nat) (l : List UInt8) : Prop where
  ex : ∃ o cap, Blk w rb 97 [.slice (some ⟨db, o, none⟩) l.length cap] ∧ l.length ≤ cap ∧ cap ≤ maxLen ∧ db < w.heap.size ∧ At w db o (l.map B8) ∧ db ≠ rb
def RN (w : World) (rb db : Nat) (l : List UInt8) : Prop := (l = [] ∧ Blk w rb 97 [.slice none 0 0]) ∨ RD w rb db l
theorem RD.grown {w w' : World} {rb db : Nat} {l : List UInt8} (h : RD w rb db l) {row : Option Nat} (hg : Gr w row w') (h1 : some rb ≠ row) (h2 : some db ≠ row) : RD w' rb db l := by
  obtain ⟨o, cap, hB, h3, h4, h5, h6, h7⟩ := h.ex
  exact ⟨o, cap, hB.grown hg h1, h3, h4, Nat.lt_of_lt_of_le h5 hg.size, h6.grown hg h2, h7⟩
theorem RD.new {w w' : World} {rb db : Nat} {l : List UInt8} (h : RD w rb db l) (hg : Gr w none w') : RD w' rb db l := h.grown hg (by simp) (by simp)
set_option maxHeartbeats 1000000 in
set_option maxRecDepth 100000 in
theorem take_ok (rb db n : Nat) (l : List UInt8) (w : World) (hR : RD w rb db l) (hn : n ≤ l.length) (hl : l.length ≤ 1000000) :
    Calls Tryd.prog 74 #[.pointer (some ⟨rb, 0, none⟩), .int .i64 n] w fun e w' => ∃ o, e = .returned (.slice (some ⟨db, o, none⟩) n n) ∧ At w' db o ((l.take n).map B8) ∧ RD w' rb db (l.drop n) ∧ Gr w (some rb) w' := by
  obtain ⟨o, cap, hB, h1, h2, h3, h4, h5⟩ := hR.ex
  have hc : w.cell? ⟨rb, 0, none⟩ = some (.slice (some ⟨db, o, none⟩) l.length cap) := hB.cell? 0
  have hf : w.frozen? ⟨rb, 0, none⟩ = false := hB.free 0
  have i0 : (0 : Int) ≤ (n : Int) := by omega
  have i1 : (n : Int) ≤ (l.length : Int) := by omega
  have i2 : (n : Int) ≤ (cap : Int) := by omega
  have i3 : (l.length : Int) ≤ (cap : Int) := by omega
  go_enter Tryd.func74, Tryd.ntmps74
  go_wp2_with (go_at_call 52; refine (want_true _ _).mono ?_; rintro e w' ⟨rfl, rfl⟩)
  · obtain rfl : l.length = n := by omega
    go_ret
    refine ⟨o, rfl, ?_, ⟨o, 0, ?_, by simp, by unfold maxLen; omega, by simpa using h3, ?_, h5⟩, (Gr.refl _ _).setCell (.inr rfl) _⟩
    · rw [← List.map_take, List.take_length]
      exact h4.grown ((Gr.refl _ (some rb)).setCell (.inr rfl) _) (by simp [h5])
    · have := hB.set 0 (.slice (some ⟨db, o, none⟩) 0 0)
      simpa using this
    · rw [List.drop_length]; intro i hi; simp at hi
  · go_ret
    refine ⟨o, rfl, ?_, ⟨o + n, cap - n, ?_, by simp; omega, by omega, by simpa using h3, ?_, h5⟩, (Gr.refl _ _).setCell (.inr rfl) _⟩
    · have h6 := h4.grown ((Gr.refl w' (some rb)).setCell (b := rb) (i := 0) (.inr rfl) (.slice (some ⟨db, o + n, none⟩) (l.length - n) (cap - n))) (by simp [h5])
      intro i hi
      have hi' : i < n := by simp at hi; omega
      have := h6 i (by simp; omega)
      simpa using this
    · have := hB.set 0 (.slice (some ⟨db, o + n, none⟩) (l.length - n) (cap - n))
      simpa using this
    · have h6 := h4.grown ((Gr.refl w' (some rb)).setCell (b := rb) (i := 0) (.inr rfl) (.slice (some ⟨db, o + n, none⟩) (l.length - n) (cap - n))) (by simp [h5])
      intro i hi
      have hi' : i < l.length - n := by simpa using hi
      have := h6 (n + i) (by simp; omega)
      rw [← Nat.add_assoc] at this
      simpa using this
theorem take_bad (rb db n : Nat) (l : List UInt8) (w : World) (hR : RN w rb db l) (hn : ¬ n ≤ l.length) :
    Calls Tryd.prog 74 #[.pointer (some ⟨rb, 0, none⟩), .int .i64 n] w fun e w' => e = .panicked codePanic ∧ w' = w := by
  obtain ⟨b, m, cap, hc, hm⟩ : ∃ b m cap, w.cell? ⟨rb, 0, none⟩ = some (.slice b m cap) ∧ m = l.length := by
    rcases hR with ⟨rfl, hB⟩ | hR
    · exact ⟨_, _, _, hB.cell? 0, rfl⟩
    · obtain ⟨o, cap, hB, _⟩ := hR.ex
      exact ⟨_, _, _, hB.cell? 0, rfl⟩
  have i1 : ¬ (n : Int) ≤ (m : Int) := by omega
  go_enter Tryd.func74, Tryd.ntmps74
  go_wp2_with (go_at_call 52; refine (want_false _ _).mono ?_; rintro e w' ⟨rfl, rfl⟩)
  exact ⟨rfl, rfl, rfl⟩
end Go.Proofs.YtjibmhmaoegcnaaDoor
