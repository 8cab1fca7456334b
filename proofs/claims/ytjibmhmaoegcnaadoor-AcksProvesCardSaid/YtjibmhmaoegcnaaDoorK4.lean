/- Parts of a proof, joined by program: Number, Length, Codec3, Codec4, Codec5, TV, Value. -/
import Derived.Test.YtjibmhmaoegcnaaDoorK3
import Derived.Deep.AppendLies
import Derived.Deep.RegionHeld3
import Derived.Deep.DrawnRows
import Derived.Lib.AppendStr
namespace Go.Proofs.YtjibmhmaoegcnaaDoor
open Go.RowKit Go.Shelf
set_option linter.unusedVariables false
/-- What a reading part leaves: a value and fewer bytes, or the panic. -/
def Read (w : World) (rb db : Nat) (o : Option (Value × List UInt8)) (e : Ending) (w' : World) : Prop :=
  match o with
  | some (v, r) => e = .returned v ∧ RD w' rb db r ∧ Gr w (some rb) w'
  | none => e = .panicked codePanic ∧ Gr w (some rb) w'
def u64Of (o : Option (Nat × List UInt8)) : Option (Value × List UInt8) := o.map fun p => (.int .u64 p.1, p.2)
/-- A number goes on, with what has been read of it. -/
def numGo (acc i : Nat) (o : Option (Nat × List UInt8)) : Option (Nat × List UInt8) := o.map fun p => (acc + 128 ^ i * p.1, p.2)
theorem take1_ok (rb db : Nat) (c : UInt8) (l : List UInt8) (w : World) (hR : RD w rb db (c :: l)) (hl : l.length < 1000000) :
    Calls Tryd.prog 74 #[.pointer (some ⟨rb, 0, none⟩), .int .i64 1] w fun e w' => ∃ b o, e = .returned (.slice (some ⟨b, o, none⟩) 1 1) ∧ w'.cell? ⟨b, o, none⟩ = some (.int .u8 (c.toNat : Int)) ∧ RD w' rb db l ∧ Gr w (some rb) w' := by
  refine (take_ok rb db 1 (c :: l) w hR (by simp) (by simp; omega)).mono ?_
  rintro e w' ⟨o, rfl, hA, hR', hG⟩
  exact ⟨db, o, rfl, hA 0 (by simp), hR', hG⟩
theorem and_127 : ∀ a : Fin 256, bits .and .u8 ((a.val : Nat) : Int) 127 = ((a.val % 128 : Nat) : Int) := by decide +kernel
theorem acc_or (acc i : Nat) (c : UInt8) (hacc : acc < 128 ^ i) (hi : i ≤ 9) (h : i < 9 ∨ c.toNat ≤ 1) :
    bits .or .u64 (acc : Int) (IntKind.u64.wrap (IntKind.u64.wrap (bits .and .u8 (c.toNat : Int) 127) * 2 ^ (7 * i))) = ((acc + 128 ^ i * (c.toNat % 128) : Nat) : Int) := by
  have h1 := and_127 ⟨c.toNat, c.toNat_lt⟩
  simp only at h1
  have hp : (2 : Nat) ^ (7 * i) = 128 ^ i := by rw [Nat.pow_mul]
  have hpi : (2 : Int) ^ (7 * i) = ((128 ^ i : Nat) : Int) := by rw [← hp]; simp
  have h2 : IntKind.u64.wrap ((c.toNat % 128 : Nat) : Int) = ((c.toNat % 128 : Nat) : Int) := by rw [IntKind.wrap_u64]; omega
  have hb : c.toNat % 128 * 128 ^ i < 18446744073709551616 := by
    rcases Nat.lt_or_ge i 9 with h9 | h9
    · have : (128 : Nat) ^ i ≤ 128 ^ 8 := Nat.pow_le_pow_right (by decide) (by omega)
      have e : (128 : Nat) ^ 8 = 72057594037927936 := by decide
      have g : c.toNat % 128 * 128 ^ i ≤ 127 * 72057594037927936 := Nat.mul_le_mul (by omega) (by omega)
      omega
    · obtain rfl : i = 9 := by omega
      have e : (128 : Nat) ^ 9 = 9223372036854775808 := by decide
      have : c.toNat % 128 ≤ 1 := by omega
      rw [e]; omega
  have ha : acc < 18446744073709551616 := by
    have : (128 : Nat) ^ i ≤ 128 ^ 9 := Nat.pow_le_pow_right (by decide) hi
    have e : (128 : Nat) ^ 9 = 9223372036854775808 := by decide
    omega
  have h3 : IntKind.u64.wrap (((c.toNat % 128 : Nat) : Int) * ((128 ^ i : Nat) : Int)) = ((c.toNat % 128 * 128 ^ i : Nat) : Int) := by
    rw [← Int.natCast_mul, IntKind.wrap_u64]; omega
  rw [h1, h2, hpi, h3, bits_or_u64_nat _ _ ha hb, Nat.or_comm, ← hp, or_low _ _ (7 * i) (by rw [hp]; exact hacc), Nat.mul_comm, Nat.add_comm]
theorem acc_or0 (acc i : Nat) (c : UInt8) (hacc : acc < 128 ^ i) (h0 : i = 0) :
    bits .or .u64 (acc : Int) (IntKind.u64.wrap (IntKind.u64.wrap (bits .and .u8 (c.toNat : Int) 127))) = ((acc + 128 ^ i * (c.toNat % 128) : Nat) : Int) := by
  have := acc_or acc i c hacc (by omega) (by omega)
  subst h0
  rw [← this, Nat.mul_zero, Int.pow_zero, Int.mul_one]
/-- The part of a number that is the last one. -/
theorem num_last (l l' : List UInt8) (acc i : Nat) (c : UInt8) (hD : numD 0 l = numGo acc i (numD i (c :: l'))) (h1 : i = 0 ∨ c.toNat ≠ 0) (h2 : i < 9 ∨ c.toNat ≤ 1) (h3 : c.toNat < 128) : numD 0 l = some (acc + 128 ^ i * (c.toNat % 128), l') := by
  rw [hD, numD, if_pos ⟨h1, h2⟩, if_pos h3, Nat.mod_eq_of_lt h3]; rfl
theorem num_more (l l' : List UInt8) (acc i : Nat) (c : UInt8) (hD : numD 0 l = numGo acc i (numD i (c :: l'))) (h1 : i = 0 ∨ c.toNat ≠ 0) (h2 : i < 9 ∨ c.toNat ≤ 1) (h3 : ¬ c.toNat < 128) : numD 0 l = numGo (acc + 128 ^ i * (c.toNat % 128)) (i + 1) (numD (i + 1) l') := by
  have hc := c.toNat_lt
  rw [hD, numD, if_pos ⟨h1, h2⟩, if_neg h3]
  cases numD (i + 1) l' with
  | none => rfl
  | some p =>
    obtain ⟨u, r⟩ := p
    simp only [numGo, Option.map_some]
    congr 2
    rw [show c.toNat % 128 = c.toNat - 128 by omega, Nat.pow_succ, Nat.mul_add, Nat.mul_assoc, Nat.add_assoc]
theorem acc_lt (acc i : Nat) (c : UInt8) (h : acc < 128 ^ i) : acc + 128 ^ i * (c.toNat % 128) < 128 ^ (i + 1) := by
  have : 128 ^ i * (c.toNat % 128) ≤ 128 ^ i * 127 := Nat.mul_le_mul_left _ (by omega)
  rw [Nat.pow_succ]; omega
set_option maxHeartbeats 1000000 in
set_option maxRecDepth 100000 in
theorem number_any (rb db : Nat) (l : List UInt8) (w : World) (hR : RD w rb db l) (hl : l.length ≤ 1000000) :
    Calls Tryd.prog 76 #[.pointer (some ⟨rb, 0, none⟩)] w fun e w' => Read w rb db (u64Of (numD 0 l)) e w' := by
  go_enter Tryd.func76, Tryd.ntmps76
  go_wp2
  go_loopw [2, 3] (fun a j wr => ∃ (i acc : Nat) (l' : List UInt8), a = .int .u64 acc ∧ j = .int .i64 i ∧ RD wr rb db l' ∧ Gr w (some rb) wr ∧ l'.length ≤ l.length ∧ i ≤ 9 ∧ acc < 128 ^ i ∧ numD 0 l = numGo acc i (numD i l')) (fun _ j _ => (10 - intOf j).toNat)
  case atStart => exact ⟨0, 0, l, rfl, rfl, hR, Gr.refl _ _, Nat.le_refl _, by omega, by decide, by cases numD 0 l <;> simp [numGo]⟩
  case round =>
    obtain ⟨i, acc, l', rfl, rfl, hR', hG, hl', hi, hacc, hD⟩ := hrel
    cases l' with
    | nil =>
      have hD' : numD 0 l = none := by rw [hD]; simp [numD, numGo]
      go_wp2_with (go_at_call 74; refine (take_bad rb db 1 [] _ (.inr hR') (by simp)).mono ?_; rintro e w' ⟨rfl, rfl⟩)
      refine ⟨rfl, ?_⟩
      rw [hD']
      exact ⟨rfl, hG⟩
    | cons c l' =>
      have hc := c.toNat_lt
      have hl2 : l'.length < 1000000 := by simp at hl'; omega
      by_cases hi0 : i = 0
      · have i1 : ((i : Int) == 0) = true := by simp [hi0]
        have i3 : (i : Int) < 9 := by omega
        by_cases hlow : c.toNat < 128
        · have i4 : (c.toNat : Int) < 128 := by omega
          go_wp2_with (first | (go_at_call 74; refine (take1_ok rb db c l' _ hR' hl2).mono ?_; rintro e w' ⟨b, o, rfl, hcell, hR1, hG1⟩) | (go_at_call 52; refine (want_true _ _).mono ?_; rintro e w' ⟨rfl, rfl⟩))
          go_ret
          rw [num_last l l' acc i c hD (by omega) (by omega) hlow]
          exact ⟨congrArg Ending.returned (int_eq (acc_or0 acc i c hacc hi0)), hR1, hG.trans hG1⟩
        · have i4 : ¬ (c.toNat : Int) < 128 := by omega
          go_wp2_with (first | (go_at_call 74; refine (take1_ok rb db c l' _ hR' hl2).mono ?_; rintro e w' ⟨b, o, rfl, hcell, hR1, hG1⟩) | (go_at_call 52; refine (want_true _ _).mono ?_; rintro e w' ⟨rfl, rfl⟩))
          go_roundw
          case rel => exact ⟨i + 1, acc + 128 ^ i * (c.toNat % 128), l', int_eq (acc_or0 acc i c hacc hi0), int_eq (by omega), hR1, hG.trans hG1, by simp at hl'; omega, by omega, acc_lt acc i c hacc, num_more l l' acc i c hD (by omega) (by omega) hlow⟩
          case measure => simp [intOf]; omega
      · by_cases hc0 : c.toNat = 0
        · have hD' : numD 0 l = none := by
            rw [hD, numD, if_neg (by rintro ⟨h | h, _⟩ <;> omega)]; rfl
          have i1 : ¬ (i : Int) = 0 := by omega
          have i2 : (c.toNat : Int) = 0 := by omega
          go_wp2_with (first | (go_at_call 74; refine (take1_ok rb db c l' _ hR' hl2).mono ?_; rintro e w' ⟨b, o, rfl, hcell, hR1, hG1⟩) | (go_at_call 52; refine (want_false _ _).mono ?_; rintro e w' ⟨rfl, rfl⟩))
          refine ⟨rfl, ?_⟩
          rw [hD']
          exact ⟨rfl, hG.trans hG1⟩
        · have i1 : ¬ (i : Int) = 0 := by omega
          have i2 : ¬ (c.toNat : Int) = 0 := by omega
          have hb : ((i : Int) == 0 || (c.toNat : Int) != 0) = true := by simp; omega
          by_cases hi9 : i < 9
          · have i3 : (i : Int) < 9 := by omega
            by_cases hlow : c.toNat < 128
            · have i4 : (c.toNat : Int) < 128 := by omega
              go_wp2_with (first | (go_at_call 74; refine (take1_ok rb db c l' _ hR' hl2).mono ?_; rintro e w' ⟨b, o, rfl, hcell, hR1, hG1⟩) | (go_at_call 52; refine (want_true _ _).mono ?_; rintro e w' ⟨rfl, rfl⟩))
              go_ret
              rw [num_last l l' acc i c hD (by omega) (by omega) hlow]
              exact ⟨congrArg Ending.returned (int_eq (acc_or acc i c hacc hi (by omega))), hR1, hG.trans hG1⟩
            · have i4 : ¬ (c.toNat : Int) < 128 := by omega
              go_wp2_with (first | (go_at_call 74; refine (take1_ok rb db c l' _ hR' hl2).mono ?_; rintro e w' ⟨b, o, rfl, hcell, hR1, hG1⟩) | (go_at_call 52; refine (want_true _ _).mono ?_; rintro e w' ⟨rfl, rfl⟩))
              go_roundw
              case rel => exact ⟨i + 1, acc + 128 ^ i * (c.toNat % 128), l', int_eq (acc_or acc i c hacc hi (by omega)), int_eq (by omega), hR1, hG.trans hG1, by simp at hl'; omega, by omega, acc_lt acc i c hacc, num_more l l' acc i c hD (by omega) (by omega) hlow⟩
              case measure => simp [intOf]; omega
          · have i3 : ¬ (i : Int) < 9 := by omega
            by_cases hc1 : c.toNat ≤ 1
            · have i4 : (c.toNat : Int) < 128 := by omega
              have i5 : (c.toNat : Int) ≤ 1 := by omega
              have hlow : c.toNat < 128 := by omega
              go_wp2_with (first | (go_at_call 74; refine (take1_ok rb db c l' _ hR' hl2).mono ?_; rintro e w' ⟨b, o, rfl, hcell, hR1, hG1⟩) | (go_at_call 52; refine (want_true _ _).mono ?_; rintro e w' ⟨rfl, rfl⟩))
              go_ret
              rw [num_last l l' acc i c hD (by omega) (by omega) hlow]
              exact ⟨congrArg Ending.returned (int_eq (acc_or acc i c hacc hi (by omega))), hR1, hG.trans hG1⟩
            · have i5 : decide ((c.toNat : Int) ≤ 1) = false := by simp; omega
              have i6 : decide ((i : Int) < 9) = false := by simp; omega
              have hD' : numD 0 l = none := by
                rw [hD, numD, if_neg (by rintro ⟨_, h | h⟩ <;> omega)]; rfl
              go_wp2_with (first | (go_at_call 74; refine (take1_ok rb db c l' _ hR' hl2).mono ?_; rintro e w' ⟨b, o, rfl, hcell, hR1, hG1⟩) | (go_at_call 52; refine (want_false _ _).mono ?_; rintro e w' ⟨rfl, rfl⟩))
              refine ⟨rfl, ?_⟩
              rw [hD']
              exact ⟨rfl, hG.trans hG1⟩
end Go.Proofs.YtjibmhmaoegcnaaDoor
namespace Go.Proofs.YtjibmhmaoegcnaaDoor
open Go.RowKit Go.Shelf
set_option linter.unusedVariables false
def i64Of (o : Option (Nat × List UInt8)) : Option (Value × List UInt8) := o.map fun p => (.int .i64 p.1, p.2)
theorem RD.cell {w : World} {rb db : Nat} {l : List UInt8} (h : RD w rb db l) : ∃ o cap, w.cell? ⟨rb, 0, none⟩ = some (.slice (some ⟨db, o, none⟩) l.length cap) := by
  obtain ⟨o, cap, hB, _⟩ := h.ex
  exact ⟨o, cap, hB.cell? 0⟩
set_option maxHeartbeats 1000000 in
set_option maxRecDepth 100000 in
theorem length_any (rb db : Nat) (l : List UInt8) (w : World) (hR : RD w rb db l) (hl : l.length ≤ 1000000) :
    Calls Tryd.prog 77 #[.pointer (some ⟨rb, 0, none⟩)] w fun e w' => Read w rb db (i64Of (lenD l)) e w' := by
  have hN := number_any rb db l w hR hl
  have hs := numD_suffix l 0
  cases hn : numD 0 l with
  | none =>
    have hD : lenD l = none := by unfold lenD; rw [hn]
    rw [hn] at hN
    go_enter Tryd.func77, Tryd.ntmps77
    go_wp2_with (go_at_call 76; refine hN.mono ?_; rintro e w' ⟨rfl, hG⟩)
    refine ⟨rfl, ?_⟩
    rw [hD]
    exact ⟨rfl, hG⟩
  | some p =>
    obtain ⟨n, r⟩ := p
    have hr := hs n r hn
    rw [hn] at hN
    clear hs
    have HN := Lib.hid (numD_lt0 hn)
    by_cases hle : n ≤ r.length
    · have hD : lenD l = some (n, r) := by unfold lenD; rw [hn]; simp [hle]
      have hW : decide ((n : Int) ≤ IntKind.u64.wrap (r.length : Int)) = true := by rw [IntKind.wrap_u64]; simp; omega
      go_enter Tryd.func77, Tryd.ntmps77
      go_wp2_with (first | (go_at_call 76; refine hN.mono ?_; rintro e w' ⟨rfl, hR', hG⟩; obtain ⟨o, cap, hc⟩ := hR'.cell) | (go_at_call 52; refine (want_true _ _).mono ?_; rintro e w' ⟨rfl, rfl⟩))
      go_ret
      rw [hD]
      exact ⟨rfl, hR', hG⟩
    · have hD : lenD l = none := by unfold lenD; rw [hn]; simp [hle]
      have hW : decide ((n : Int) ≤ IntKind.u64.wrap (r.length : Int)) = false := by rw [IntKind.wrap_u64]; simp; omega
      go_enter Tryd.func77, Tryd.ntmps77
      go_wp2_with (first | (go_at_call 76; refine hN.mono ?_; rintro e w' ⟨rfl, hR', hG⟩; obtain ⟨o, cap, hc⟩ := hR'.cell) | (go_at_call 52; refine (want_false _ _).mono ?_; rintro e w' ⟨rfl, rfl⟩))
      refine ⟨rfl, ?_⟩
      rw [hD]
      exact ⟨rfl, hG⟩
end Go.Proofs.YtjibmhmaoegcnaaDoor
namespace Go.Proofs.YtjibmhmaoegcnaaDoor
open Go.RowKit Go.Shelf
set_option linter.unusedVariables false
attribute [local go_sem ↓] Go.wp_at_zero Go.wp_at_succ
set_option maxRecDepth 100000 in
theorem codecCheck_leaf (x : Leaf) (w : World) :
    Calls Tryd.prog 32 #[.agg #[.int .i64 x.k, .int .i64 x.n, .string x.s, .slice none 0 0]] w fun e w' => e = .returned (.int .i64 0) ∧ Gr w none w' := by
  go_enter Tryd.func32, Tryd.ntmps32
  go_wp2_with (go_at_call 57; refine (formed_leaf x _).mono ?_; rintro e w' ⟨rfl, hG'⟩)
  go_ret
  exact ⟨rfl, ((Gr.refl _ _).alloc _).trans hG'⟩
set_option maxRecDepth 100000 in
theorem codecCheck_list (ls : List Leaf) (b cap : Nat) (w : World) (hb : b < w.heap.size) (hA : At w b 0 (ls.flatMap Leaf.cells)) (h0 : 0 < ls.length) (h1 : ls.length ≤ 1000) :
    Calls Tryd.prog 32 #[.agg #[.int .i64 3, .int .i64 0, .string ⟨#[]⟩, .slice (some ⟨b, 0, none⟩) ls.length cap]] w fun e w' => e = .returned (.int .i64 0) ∧ Gr w none w' := by
  go_enter Tryd.func32, Tryd.ntmps32
  go_wp2_with (go_at_call 57; refine (formed_list ls b cap _ (by rw [World.size_alloc]; omega) (hA.grown ((Gr.refl _ none).alloc _) (by simp)) h0 h1).mono ?_; rintro e w' ⟨rfl, hG'⟩)
  go_ret
  exact ⟨rfl, ((Gr.refl _ _).alloc _).trans hG'⟩
/-- A row of the caller's has been appended to; a block of this call's own is known whole. -/
structure ES (w : World) (v : Value) (c : List Value) (w' : World) : Prop where
  gr : Gr w v.ownBlock w'
  blk : Blk w' w.heap.size 51 c
theorem ES.drew {w w' : World} {v : Value} {c : List Value} (h : ES w v c w') : ES w v c w'.drew := ⟨h.gr.drew, h.blk.drew⟩
theorem ES.alloc {w w' : World} {v : Value} {c : List Value} (h : ES w v c w') (o : Obj) : ES w v c (w'.alloc o) := ⟨h.gr.alloc o, h.blk.alloc o⟩
theorem ES.on {w w' w'' : World} {v : Value} {c : List Value} (h : ES w v c w') {row : Option Nat} (k : w'.grownBy w'' row) (hr : ∀ b, row = some b → w.heap.size < b ∨ v.ownBlock = some b) (hv : ∀ b, v.ownBlock = some b → b < w.heap.size) : ES w v c w'' :=
  ⟨h.gr.on k fun b hb => (hr b hb).imp_left Nat.le_of_lt, h.blk.grown k fun e => by
    rcases hr _ e.symm with g | g
    · omega
    · have := hv _ g; omega⟩
theorem OwnB.lt {w : World} {B : Nat} {v : Value} {l : List UInt8} (h : OwnB w B v l) : ∀ b, v.ownBlock = some b → b < w.heap.size := by
  obtain ⟨_, ⟨rfl, _⟩ | ⟨g, cap, cur, rfl, hg, hb, _⟩⟩ := h
  · intro b hb; cases hb
  · intro b hb'
    have e : g = b := by simpa [Value.ownBlock] using hb'
    subst e
    exact (Array.getElem?_eq_some_iff.1 hb).1
theorem ES.at1 {w w' : World} {v x : Value} {c : List Value} (hx : c[1]? = some x) (h : ES w v c w') : w'.cell? ⟨w.heap.size, 1, none⟩ = some x ∧ ES w v c w' := ⟨by rw [h.blk.cell? 1, hx], h⟩
theorem AppTo.trans {w w' w'' : World} {v v' v'' : Value} (h : AppTo w v w' v') (k : AppTo w' v' w'' v'') : AppTo w v w'' v'' := by
  refine ⟨h.gr.on k.gr fun b hb => ?_, ?_⟩
  · rcases h.lies with e | ⟨c, e, hc⟩
    · exact .inr (by rw [← e]; exact hb)
    · rw [hb] at e; cases e; exact .inl hc
  · rcases k.lies with e | ⟨c, e, hc⟩
    · rw [e]; exact h.lies
    · exact .inr ⟨c, e, Nat.le_trans h.gr.size hc⟩
theorem AppTo.of {w w' : World} {v v' : Value} {g n cap : Nat} (hv : v' = .slice (some ⟨g, 0, none⟩) n cap) (h : Gr w v.ownBlock w') (hl : v.ownBlock = some g ∨ w.heap.size ≤ g) : AppTo w v w' v' := by
  subst hv
  refine ⟨h, ?_⟩
  rcases hl with e | e
  · exact .inl e.symm
  · exact .inr ⟨g, rfl, e⟩
theorem lies_of {w W : World} {v : Value} {g n cap : Nat} (hsz : W.heap.size = w.heap.size + 1) (hat : v.ownBlock = some g ∨ W.heap.size ≤ g) : ∀ b, (Value.slice (some ⟨g, 0, none⟩) n cap).ownBlock = some b → w.heap.size < b ∨ v.ownBlock = some b := by
  intro b hb
  have e : g = b := by simpa [Value.ownBlock] using hb
  subst e
  rcases hat with h | h
  · exact .inr h
  · exact .inl (by omega)
/-- A byte is appended, in a region that draws. -/
theorem step_byte {ops : Array Oper} {o : Oper} {a : Act} {K : Act → World → Prop} {Q : Exit → Act → World → Prop} {E : Prop} (hgd : o.guard = none) (s x : Operand)
    (ho : o.op = .call { callee := .builtin .append, args := #[s, x], argTypes := #[28, 28] }) (B : Nat) (v : Value) (pre : List UInt8) (W : World) (y : UInt8) (z : Int) (hz : z = y.toNat)
    (hs : a.eval s = v) (hown : OwnB W B v pre) (hB : B ≤ W.heap.size) (hlen : pre.length ≤ 1500000) (H : Nat) (hW : W.heap.size = H) (hx : a.eval x = .slice (some ⟨H, 0, none⟩) 1 1)
    (h : ∀ g cap w1, OwnB w1 B (.slice (some ⟨g, 0, none⟩) (pre.length + 1) cap) (pre ++ [y]) → Gr W v.ownBlock w1 → (v.ownBlock = some g ∨ W.heap.size ≤ g) → g < w1.heap.size → K (a.put o.dst (.slice (some ⟨g, 0, none⟩) (pre.length + 1) cap)) w1) :
    if Region.wanted o (yielded ops a.tmps) = true then Oper.wp Tryd.prog o a ((W.alloc (.cells #[.int .u8 z] 5)).drew) K Q else E := by
  obtain ⟨i0, hi, hz0, hz1, hz2⟩ := info_u8 info_u8_here
  subst hz hW
  refine step_append_lies _ hgd s x 28 ho B 5 i0 (.int .u8 0) 1 1 Tryd.underlying28 hi hz0 hz1 hz2 rfl (by decide) v pre.length (pre.map B8) hs (World.ownsRow.drew (hown.alloc _)) ⟨W.heap.size, 0, none⟩ 1 1 ([y].map B8) hx rfl (OwnB.at_of (At.drew (at_new W [B8 y] _))) (ones_B8 _) (by decide) (by unfold maxLen; omega) (by omega)
    (by show B ≤ (W.alloc _).heap.size; rw [World.size_alloc]; omega) (W.heap.size + 1) (by show (W.alloc _).heap.size = _; rw [World.size_alloc]) ?_
  intro g cap w1 hown1 hgrow hat hlt
  refine h g cap w1 (by have := OwnB.of_append hown1; exact this) (((Gr.refl W _).alloc _).drew.trans hgrow) ?_ hlt
  rcases hat with e | e
  · exact .inl e
  · exact .inr (by omega)
set_option maxHeartbeats 1000000 in
set_option maxRecDepth 100000 in
theorem write1_any (B : Nat) (v : Value) (pre : List UInt8) (n : Int) (w : World) (hown : OwnB w B v pre) (hB : B ≤ w.heap.size) (hlen : pre.length ≤ 1000000) (h0 : -9223372036854775808 ≤ n) (h1 : n < 9223372036854775808) :
    Calls Tryd.prog 58 #[v, .agg #[.int .i64 1, .int .i64 n, .string ⟨#[]⟩, .slice none 0 0]] w fun e w' => ∃ v', e = .returned v' ∧ OwnB w' B v' (pre ++ (Leaf.int n).enc) ∧ v' ≠ .slice none 0 0 ∧ AppTo w v w' v' := by
  obtain ⟨i0, hi, hz0, hz1, hz2⟩ := info_u8 info_u8_here
  have hES : ES w v [.int .i64 1, .int .i64 n, .string ⟨#[]⟩, .slice none 0 0] (w.alloc (.cells #[.int .i64 1, .int .i64 n, .string ⟨#[]⟩, .slice none 0 0] 51)) := ⟨(Gr.refl _ _).alloc _, Blk.new w _ [_, _, _, _]⟩
  have hownW : OwnB (w.alloc (.cells #[.int .i64 1, .int .i64 n, .string ⟨#[]⟩, .slice none 0 0] 51)) B v pre := hown.alloc _
  have hvlt := hown.lt
  go_enter Tryd.func58, Tryd.ntmps58
  go_upto_region 1 with fail
  have hcell := hES.blk.cell? 1
  change Code.wp _ _ _ _ (w.alloc (.cells #[.int .i64 1, .int .i64 n, .string ⟨#[]⟩, .slice none 0 0] 51))
  have hsz : (w.alloc (.cells #[.int .i64 1, .int .i64 n, .string ⟨#[]⟩, .slice none 0 0] 51)).heap.size = w.heap.size + 1 := World.size_alloc _ _
  generalize (w.alloc (.cells #[.int .i64 1, .int .i64 n, .string ⟨#[]⟩, .slice none 0 0] 51)) = W at *
  have HN := Lib.hid (show (pre ++ [(1 : UInt8)]).length + (leb (zig n)).length ≤ 2000000 by
    have := leb_len10 _ (zig_lt n h0 h1)
    rw [List.length_append, List.length_singleton]; omega)
  have HZ := Lib.hid (zig_lt n h0 h1)
  have HU := Lib.hid (show ∀ w, Calls Tryd.prog 60 #[.int .i64 n] w fun e w' => e = .returned (.int .u64 (zig n)) ∧ w' = w from fun w => unsigned_any n w h0 h1)
  clear h0 h1
  go_region_held3 (fun w' => w'.cell? ⟨w.heap.size, 1, none⟩ = some (.int .i64 n) ∧ ES w v [.int .i64 1, .int .i64 n, .string ⟨#[]⟩, .slice none 0 0] w') (((try go_split_ands); refine ES.at1 rfl ?_; repeat (first | assumption | refine ES.drew ?_ | refine ES.alloc ?_ _)))
    (first
      | ((refine step_byte (by rfl) _ _ (by rfl) B v pre W 1 1 (by rfl) (by rfl) hownW (by omega) (by omega) (w.heap.size + 1) hsz (by rfl) ?_; intro g cap w1 hown1 hgrow hat hlt; have hES1 := hES.on hgrow (fun b e => .inr e) hvlt; have hA1 := AppTo.of (v' := .slice (some ⟨g, 0, none⟩) (pre.length + 1) cap) rfl hES1.gr (hat.imp_right fun h => by omega); have hB1 := Nat.le_trans hB hES1.gr.size))
      | (go_at_call 60; refine (HU.out _).mono ?_; rintro e w' ⟨rfl, rfl⟩)
      | (go_at_call 59; refine (numeral_any B _ (pre ++ [1]) (zig n) _ (by exact hown1) (by exact hB1) HN.out HZ.out).mono ?_; rintro e w2 ⟨v2, rfl, hown2, hne2, hA2⟩; have hES2 := hES1.on (w'' := w2) hA2.gr (lies_of hsz hat) hvlt; have hA3 := hA1.trans (w'' := w2) (v'' := v2) ⟨hA2.gr, hA2.lies⟩))
  go_wp2_with fail
  go_ret
  refine ⟨_, rfl, ?_, hne2, hA3⟩
  rw [List.append_assoc] at hown2
  exact hown2
end Go.Proofs.YtjibmhmaoegcnaaDoor
namespace Go.Proofs.YtjibmhmaoegcnaaDoor
open Go.RowKit Go.Shelf
set_option linter.unusedVariables false
attribute [local go_sem ↓] Go.wp_at_zero Go.wp_at_succ
theorem strCells_eq (s : List UInt8) : Lib.strCells ⟨s.toArray⟩ = s.map B8 := rfl
/-- A text is appended to a row that is not nil. -/
theorem run_append_text (W : World) (ty : TypeId) (B : Nat) (v : Value) (pre s : List UInt8) (hown : OwnB W B v pre) (hne : v ≠ .slice none 0 0) (hB : B ≤ W.heap.size) (hlen : pre.length + s.length ≤ 1500000) :
    ∃ v' w', (Builtin.append_ #[28, 9] ty #[v, .string ⟨s.toArray⟩]).run Tryd.prog W = .ok v' w' ∧ OwnB w' B v' (pre ++ s) ∧ v' ≠ .slice none 0 0 ∧ AppTo W v w' v' := by
  obtain ⟨i0, hi, hz0, hz1, hz2⟩ := info_u8 info_u8_here
  have hs : (ByteArray.mk s.toArray).size = s.length := by simp [ByteArray.size]
  obtain ⟨v', w', hr, h2, h3, h4⟩ := Lib.run_append_own_string (P := Tryd.prog) W B 28 9 ty 5 i0 Tryd.underlying28 Tryd.underlying9 hi hz0 hz1 hz2 v pre.length (pre.map B8) hown ⟨s.toArray⟩ (by rw [hs]; unfold maxLen; omega) (by rw [hs]; omega) hB
  rw [hs, strCells_eq] at h2
  refine ⟨v', w', hr, OwnB.of_append h2, fun e => hne (h4.1 e).1, h3, ?_⟩
  rcases hown.2 with ⟨rfl, _⟩ | ⟨g, cap, cur, rfl, hbg, hg, hnc, hcm, hcs, htake⟩
  · exact absurd rfl hne
  · by_cases hroom : pre.length + (ByteArray.mk s.toArray).size ≤ cap
    · have hcs' : cur.size = cap := by simpa using hcs
      have hr2 := Lib.run_append_room_string (P := Tryd.prog) W 28 9 ty 5 i0 Tryd.underlying28 Tryd.underlying9 hi hz1 g pre.length cap cur hg ⟨s.toArray⟩ hroom (by omega)
      rw [hr2] at hr
      cases hr
      exact .inl rfl
    · have hxl : (pre.map B8).length = pre.length := by simp
      have hr2 := Lib.run_append_grow_string (P := Tryd.prog) W 28 9 ty 5 i0 (.int .u8 0) Tryd.underlying28 Tryd.underlying9 hi hz0 ⟨g, 0, none⟩ pre.length cap (pre.map B8) (by rw [hz1]; simp) (hown.cells (g := g) rfl) ⟨s.toArray⟩ (by omega) (by omega) (by rw [hz2]; exact growslice_fits (by omega) (by omega))
      rw [hr2] at hr
      cases hr
      exact .inr ⟨_, rfl, Nat.le_refl _⟩
/-- The same at a step of a region that draws. -/
theorem step_text {ops : Array Oper} {o : Oper} {a : Act} {K : Act → World → Prop} {Q : Exit → Act → World → Prop} {E : Prop} (hgd : o.guard = none) (sl x : Operand)
    (ho : o.op = .call { callee := .builtin .append, args := #[sl, x], argTypes := #[28, 9] }) (B : Nat) (v : Value) (pre s : List UInt8) (W : World)
    (hs : a.eval sl = v) (hown : OwnB W B v pre) (hne : v ≠ .slice none 0 0) (hB : B ≤ W.heap.size) (hlen : pre.length + s.length ≤ 1500000) (hx : a.eval x = .string ⟨s.toArray⟩)
    (h : ∀ v' w1, OwnB w1 B v' (pre ++ s) → v' ≠ .slice none 0 0 → AppTo W v w1 v' → K (a.put o.dst v') w1) :
    if Region.wanted o (yielded ops a.tmps) = true then Oper.wp Tryd.prog o a W K Q else E := by
  have hw : Region.wanted o (yielded ops a.tmps) = true := by simp [Region.wanted, hgd]
  rw [if_pos hw]
  obtain ⟨v', w', hr, h2, h3, h4⟩ := run_append_text W o.type B v pre s hown hne hB hlen
  unfold Oper.wp execOp
  simp only [ho, resolve, invoke, builtin, Sem.run_bind, Sem.run_pure, Result.andThen_ok, List.map_toArray, List.map_cons, List.map_nil, hs, hx, hr]
  exact h v' w' h2 h3 h4
theorem ES.at2 {w w' : World} {v x : Value} {c : List Value} (hx : c[2]? = some x) (h : ES w v c w') : w'.cell? ⟨w.heap.size, 2, none⟩ = some x ∧ ES w v c w' := ⟨by rw [h.blk.cell? 2, hx], h⟩
/-- Where the row lies that was appended to. -/
theorem AppTo.lies2 {w W : World} {v v' : Value} (h : AppTo w v W v') : ∀ b, v'.ownBlock = some b → w.heap.size ≤ b ∨ v.ownBlock = some b := by
  intro b hb
  rcases h.lies with e | ⟨c, e, hc⟩
  · exact .inr (by rw [← e]; exact hb)
  · rw [hb] at e; cases e; exact .inl hc
set_option maxHeartbeats 1000000 in
set_option maxRecDepth 100000 in
theorem write2_any (B : Nat) (v : Value) (pre : List UInt8) (s : List UInt8) (w : World) (hown : OwnB w B v pre) (hB : B ≤ w.heap.size) (hlen : pre.length ≤ 1000000) (hs : s.length ≤ 1000) :
    Calls Tryd.prog 61 #[v, .agg #[.int .i64 2, .int .i64 0, .string ⟨s.toArray⟩, .slice none 0 0]] w fun e w' => ∃ v', e = .returned v' ∧ OwnB w' B v' (pre ++ (Leaf.text s).enc) ∧ v' ≠ .slice none 0 0 ∧ AppTo w v w' v' := by
  have hES : ES w v [.int .i64 2, .int .i64 0, .string ⟨s.toArray⟩, .slice none 0 0] (w.alloc (.cells #[.int .i64 2, .int .i64 0, .string ⟨s.toArray⟩, .slice none 0 0] 51)) := ⟨(Gr.refl _ _).alloc _, Blk.new w _ [_, _, _, _]⟩
  have hownW : OwnB (w.alloc (.cells #[.int .i64 2, .int .i64 0, .string ⟨s.toArray⟩, .slice none 0 0] 51)) B v pre := hown.alloc _
  have hvlt := hown.lt
  go_enter Tryd.func61, Tryd.ntmps61
  go_upto_region 1 with fail
  have hcell := hES.blk.cell? 2
  change Code.wp _ _ _ _ (w.alloc (.cells #[.int .i64 2, .int .i64 0, .string ⟨s.toArray⟩, .slice none 0 0] 51))
  have hsz : (w.alloc (.cells #[.int .i64 2, .int .i64 0, .string ⟨s.toArray⟩, .slice none 0 0] 51)).heap.size = w.heap.size + 1 := World.size_alloc _ _
  generalize (w.alloc (.cells #[.int .i64 2, .int .i64 0, .string ⟨s.toArray⟩, .slice none 0 0] 51)) = W at *
  have HN := Lib.hid (show (pre ++ [(2 : UInt8)]).length + (leb s.length).length ≤ 2000000 by
    have := leb_len10 s.length (by omega)
    rw [List.length_append, List.length_singleton]; omega)
  have HM := Lib.hid (show (pre ++ [(2 : UInt8)] ++ leb s.length).length + s.length ≤ 1500000 by
    have := leb_len10 s.length (by omega)
    rw [List.length_append, List.length_append, List.length_singleton]; omega)
  have HZ := Lib.hid (show s.length < 18446744073709551616 by omega)
  have HU := Lib.hid (show IntKind.u64.wrap (s.length : Int) = (s.length : Int) by rw [IntKind.wrap_u64]; omega)
  go_region_held3 (fun w' => w'.cell? ⟨w.heap.size, 2, none⟩ = some (.string ⟨s.toArray⟩) ∧ ES w v [.int .i64 2, .int .i64 0, .string ⟨s.toArray⟩, .slice none 0 0] w') (((try go_split_ands); refine ES.at2 rfl ?_; repeat (first | assumption | refine ES.drew ?_ | refine ES.alloc ?_ _)))
    (first
      | ((refine step_byte (by rfl) _ _ (by rfl) B v pre W 2 2 (by rfl) (by rfl) hownW (by omega) (by omega) (w.heap.size + 1) hsz (by rfl) ?_; intro g cap w1 hown1 hgrow hat hlt; have hES1 := hES.on hgrow (fun b e => .inr e) hvlt; have hA1 := AppTo.of (v' := .slice (some ⟨g, 0, none⟩) (pre.length + 1) cap) rfl hES1.gr (hat.imp_right fun h => by omega); have hB1 := Nat.le_trans hB hES1.gr.size))
      | (go_at_call 59; rw [HU.out]; refine (numeral_any B _ (pre ++ [2]) s.length _ (by exact hown1) (by exact hB1) HN.out HZ.out).mono ?_; rintro e w2 ⟨v2, rfl, hown2, hne2, hA2⟩; have hES2 := hES1.on (w'' := w2) hA2.gr (lies_of hsz hat) hvlt; have hA3 := hA1.trans (w'' := w2) (v'' := v2) ⟨hA2.gr, hA2.lies⟩; have hW2 := (AppTo.of (v' := .slice (some ⟨g, 0, none⟩) (pre.length + 1) cap) rfl hgrow hat).trans (w'' := w2) (v'' := v2) ⟨hA2.gr, hA2.lies⟩)
      | ((refine step_text (by rfl) _ _ (by rfl) B _ (pre ++ [2] ++ leb s.length) s _ (by rfl) (World.ownsRow.drew hown2) hne2 (Nat.le_trans hB1 hA2.gr.size) HM.out (by rfl) ?_; intro v3 w3 hown3 hne3 hA4; have hA5 := hA3.trans (w'' := w3) (v'' := v3) ⟨hA4.gr, hA4.lies⟩; have hES3 := hES2.on (w'' := w3) hA4.gr (fun b e => (AppTo.lies2 hW2 b e).imp_left fun h => by omega) hvlt)))
  go_wp2_with fail
  go_ret
  refine ⟨_, rfl, ?_, hne3, hA5⟩
  have e : pre ++ [2] ++ leb s.length ++ s = pre ++ (Leaf.text s).enc := by simp [Leaf.enc]
  rw [e] at hown3
  exact hown3
end Go.Proofs.YtjibmhmaoegcnaaDoor
namespace Go.Proofs.YtjibmhmaoegcnaaDoor
open Go.RowKit Go.Shelf
set_option linter.unusedVariables false
attribute [local go_sem ↓] Go.wp_at_zero Go.wp_at_succ
theorem run_store_func (P : Program) (w : World) (a : Addr) (m : Mode) (f : Fn) (x y : Array Value) : (store a (.func f x y) m).run P w = stored P w a (.func f x y) m := run_store P w a _ m rfl
theorem func_cells (f : Fn) (x y : Array Value) : (Value.func f x y).cells = #[.func f x y] := rfl
attribute [go_sem] run_store_func func_cells
/-- The table of writers, and the variable that the writer of lists holds. -/
structure Writers (w : World) (W C : Nat) : Prop where
  tab : Blk w W 107 [.nilFunc, .func (Fn.func 58) #[] #[], .func (Fn.func 61) #[] #[], .func (Fn.func 62) #[] #[.pointer (some ⟨C, 0, none⟩)]]
  var : Blk w C 79 [.pointer (some ⟨W, 0, none⟩)]
theorem Writers.grown {w w' : World} {W C : Nat} (h : Writers w W C) {row : Option Nat} (hg : Gr w row w') (h1 : some W ≠ row) (h2 : some C ≠ row) : Writers w' W C := ⟨h.tab.grown hg h1, h.var.grown hg h2⟩
set_option maxHeartbeats 1000000 in
set_option maxRecDepth 100000 in
theorem newWriter_any (w : World) :
    Calls Tryd.prog 33 #[] w fun e w' => e = .returned (.pointer (some ⟨w.heap.size, 0, none⟩)) ∧ Gr w none w' ∧ Writers w' w.heap.size (w.heap.size + 1) ∧ w'.heap.size = w.heap.size + 2 := by
  have hmf : ∀ (fn : Fn) (first cap : Array Value) (w : World), (Instr.makeFunc fn first cap).run Tryd.prog w = .ok (.func fn first cap) w := fun _ _ _ _ => rfl
  go_enter Tryd.func33, Tryd.ntmps33
  go_wp2_with fail
  go_ret
  refine ⟨rfl, ((Gr.refl _ _).alloc _).alloc _, ⟨(Blk.new w _ [_, _, _, _]).alloc _, ?_⟩, by rw [World.size_alloc, World.size_alloc]⟩
  have := Blk.new (w.alloc (.cells #[.nilFunc, .func (Fn.func 58) #[] #[], .func (Fn.func 61) #[] #[], .func (Fn.func 62) #[] #[.pointer (some ⟨w.heap.size + 1, 0, none⟩)]] 107)) 79 [.pointer (some ⟨w.heap.size, 0, none⟩)]
  rw [World.size_alloc] at this
  exact this
theorem ES.at3 {w w' : World} {v x : Value} {c : List Value} (hx : c[3]? = some x) (h : ES w v c w') : w'.cell? ⟨w.heap.size, 3, none⟩ = some x ∧ ES w v c w' := ⟨by rw [h.blk.cell? 3, hx], h⟩
/-- What the writer of lists holds while it writes an element. -/
structure LS (W C X : Nat) (c : List Value) (w : World) : Prop where
  wr : Writers w W C
  blk : Blk w X 51 c
theorem LS.drew {W C X : Nat} {c : List Value} {w : World} (h : LS W C X c w) : LS W C X c w.drew := ⟨⟨h.wr.tab.drew, h.wr.var.drew⟩, h.blk.drew⟩
theorem LS.grown {W C X : Nat} {c : List Value} {w w' : World} (h : LS W C X c w) {row : Option Nat} (hg : Gr w row w') (h1 : some W ≠ row) (h2 : some C ≠ row) (h3 : some X ≠ row) : LS W C X c w' := ⟨h.wr.grown hg h1 h2, h.blk.grown hg h3⟩
theorem LS.all {W C X : Nat} {k n : Int} {s : ByteArray} {w : World} (h : LS W C X [.int .i64 k, .int .i64 n, .string s, .slice none 0 0] w) :
    w.cell? ⟨C, 0, none⟩ = some (.pointer (some ⟨W, 0, none⟩)) ∧ w.cell? ⟨W, 1, none⟩ = some (.func (Fn.func 58) #[] #[]) ∧ w.cell? ⟨W, 2, none⟩ = some (.func (Fn.func 61) #[] #[]) ∧
      w.cell? ⟨X, 0, none⟩ = some (.int .i64 k) ∧ w.cell? ⟨X, 1, none⟩ = some (.int .i64 n) ∧ w.cell? ⟨X, 2, none⟩ = some (.string s) ∧ w.cell? ⟨X, 3, none⟩ = some (.slice none 0 0) ∧ LS W C X [.int .i64 k, .int .i64 n, .string s, .slice none 0 0] w :=
  ⟨h.wr.var.cell? 0, h.wr.tab.cell? 1, h.wr.tab.cell? 2, h.blk.cell? 0, h.blk.cell? 1, h.blk.cell? 2, h.blk.cell? 3, h⟩
set_option maxHeartbeats 4000000 in
set_option maxRecDepth 100000 in
theorem write3_any (B : Nat) (v : Value) (pre : List UInt8) (ls : List Leaf) (b cap W C : Nat) (w : World) (hown : OwnB w B v pre) (hB : B ≤ w.heap.size) (hb : b < B) (hA : At w b 0 (ls.flatMap Leaf.cells)) (hW : Writers w W C) (hWB : W < B) (hCB : C < B)
    (hlen : pre.length ≤ 1000) (h1 : ls.length ≤ 100) (hok : ∀ x ∈ ls, x.ok) :
    Calls Tryd.prog 62 #[v, .agg #[.int .i64 3, .int .i64 0, .string ⟨#[]⟩, .slice (some ⟨b, 0, none⟩) ls.length cap], .pointer (some ⟨C, 0, none⟩)] w fun e w' => ∃ v', e = .returned v' ∧ OwnB w' B v' (pre ++ encF ls) ∧ v' ≠ .slice none 0 0 ∧ AppTo w v w' v' := by
  have hES : ES w v [.int .i64 3, .int .i64 0, .string ⟨#[]⟩, .slice (some ⟨b, 0, none⟩) ls.length cap] (w.alloc (.cells #[.int .i64 3, .int .i64 0, .string ⟨#[]⟩, .slice (some ⟨b, 0, none⟩) ls.length cap] 51)) := ⟨(Gr.refl _ _).alloc _, Blk.new w _ [_, _, _, _]⟩
  have hownW : OwnB (w.alloc (.cells #[.int .i64 3, .int .i64 0, .string ⟨#[]⟩, .slice (some ⟨b, 0, none⟩) ls.length cap] 51)) B v pre := hown.alloc _
  have hvlt := hown.lt
  have hvB := hown.own
  go_enter Tryd.func62, Tryd.ntmps62
  go_upto_region 1 with fail
  have hcell := hES.blk.cell? 3
  change Code.wp _ _ _ _ (w.alloc (.cells #[.int .i64 3, .int .i64 0, .string ⟨#[]⟩, .slice (some ⟨b, 0, none⟩) ls.length cap] 51))
  have hsz : (w.alloc (.cells #[.int .i64 3, .int .i64 0, .string ⟨#[]⟩, .slice (some ⟨b, 0, none⟩) ls.length cap] 51)).heap.size = w.heap.size + 1 := World.size_alloc _ _
  generalize (w.alloc (.cells #[.int .i64 3, .int .i64 0, .string ⟨#[]⟩, .slice (some ⟨b, 0, none⟩) ls.length cap] 51)) = W0 at *
  have HN := Lib.hid (show (pre ++ [(3 : UInt8)]).length + (leb ls.length).length ≤ 2000000 by
    have := leb_len10 ls.length (by omega)
    rw [List.length_append, List.length_singleton]; omega)
  have HZ := Lib.hid (show ls.length < 18446744073709551616 by omega)
  have HU := Lib.hid (show IntKind.u64.wrap (ls.length : Int) = (ls.length : Int) by rw [IntKind.wrap_u64]; omega)
  go_region_held3 (fun w' => w'.cell? ⟨w.heap.size, 3, none⟩ = some (.slice (some ⟨b, 0, none⟩) ls.length cap) ∧ ES w v [.int .i64 3, .int .i64 0, .string ⟨#[]⟩, .slice (some ⟨b, 0, none⟩) ls.length cap] w') (((try go_split_ands); refine ES.at3 rfl ?_; repeat (first | assumption | refine ES.drew ?_ | refine ES.alloc ?_ _)))
    (first
      | ((refine step_byte (by rfl) _ _ (by rfl) B v pre W0 3 3 (by rfl) (by rfl) hownW (by omega) (by omega) (w.heap.size + 1) hsz (by rfl) ?_; intro g cap w1 hown1 hgrow hat hlt; have hES1 := hES.on hgrow (fun b e => .inr e) hvlt; have hA1 := AppTo.of (v' := .slice (some ⟨g, 0, none⟩) (pre.length + 1) cap) rfl hES1.gr (hat.imp_right fun h => by omega); have hB1 := Nat.le_trans hB hES1.gr.size))
      | (go_at_call 59; rw [HU.out]; refine (numeral_any B _ (pre ++ [3]) ls.length _ (by exact hown1) (by exact hB1) HN.out HZ.out).mono ?_; rintro e w2 ⟨v2, rfl, hown2, hne2, hA2⟩; have hES2 := hES1.on (w'' := w2) hA2.gr (lies_of hsz hat) hvlt; have hA3 := hA1.trans (w'' := w2) (v'' := v2) ⟨hA2.gr, hA2.lies⟩))
  have c3 := hES2.blk.cell? 3
  go_wp2_with fail
  go_loopw [0, 19] (fun d i wr => ∃ m : Nat, m ≤ ls.length ∧ i = .int .i64 m ∧ OwnB wr B d (pre ++ [3] ++ leb ls.length ++ (ls.take m).flatMap Leaf.enc) ∧ d ≠ .slice none 0 0 ∧ AppTo w v wr d) (fun _ i _ => (ls.length - intOf i).toNat)
  case atStart => exact ⟨0, by omega, rfl, by simpa using hown2, hne2, hA3⟩
  case round =>
    obtain ⟨m, hm, rfl, hown4, hne4, hA4⟩ := hrel
    by_cases hlt : m < ls.length
    · have hbl : some b ≠ v.ownBlock := fun e => by have := hvB b e.symm; omega
      have hWl : some W ≠ v.ownBlock := fun e => by have := hvB W e.symm; omega
      have hCl : some C ≠ v.ownBlock := fun e => by have := hvB C e.symm; omega
      have hR := leaf_cell (hA.grown hA4.gr hbl) m hlt
      have hW4 := hW.grown hA4.gr hWl hCl
      have hokm := hok (ls[m]) (List.getElem_mem hlt)
      have htk : ls.take (m + 1) = ls.take m ++ [ls[m]] := (List.take_append_getElem hlt).symm
      have HL := Lib.hid (show (pre ++ [3] ++ leb ls.length ++ (ls.take m).flatMap Leaf.enc).length ≤ 1000000 by
        have e1 := flat_enc_le (ls.take m) (fun x hx => hok x (List.mem_of_mem_take hx))
        have e2 := leb_len10 ls.length (by omega)
        simp only [List.length_append, List.length_singleton, List.length_take] at e1 ⊢
        omega)
      have hB4 := Nat.le_trans hB hA4.gr.size
      have hlt4 := hown4.lt
      have hB4' := hown4.own
      have hWl4 : some W ≠ u0.ownBlock := fun e => by have := hB4' W e.symm; omega
      have hCl4 : some C ≠ u0.ownBlock := fun e => by have := hB4' C e.symm; omega
      have hXl4 : some wr.heap.size ≠ u0.ownBlock := fun e => by have := hlt4 wr.heap.size e.symm; omega
      have c0 : wr.cell? ⟨b, m * 4, none⟩ = some (.int .i64 (ls[m]).k) := hR 0 (by omega)
      have c1 : wr.cell? ⟨b, m * 4 + 1, none⟩ = some (.int .i64 (ls[m]).n) := hR 1 (by omega)
      have c2 : wr.cell? ⟨b, m * 4 + 2, none⟩ = some (.string (ls[m]).s) := hR 2 (by omega)
      have c3 : wr.cell? ⟨b, m * 4 + 3, none⟩ = some (.slice none 0 0) := hR 3 (by omega)
      clear hR
      generalize hx : ls[m] = x at *
      cases x with
      | int n =>
        have hn0 := hokm.1
        have hn1 := hokm.2
        go_upto_region 5 with fail
        have hLS : LS W C wr.heap.size (Leaf.int n).cells (wr.alloc (.cells (Leaf.int n).cells.toArray 51)) := ⟨⟨hW4.tab.alloc _, hW4.var.alloc _⟩, Blk.new wr _ _⟩
        have hown5 : OwnB (wr.alloc (.cells (Leaf.int n).cells.toArray 51)) B u0 _ := hown4.alloc _
        have hA5 := hA4.alloc (.cells (Leaf.int n).cells.toArray 51)
        change Code.wp _ _ _ _ (wr.alloc (.cells (Leaf.int n).cells.toArray 51))
        have hsz5 : (wr.alloc (.cells (Leaf.int n).cells.toArray 51)).heap.size = wr.heap.size + 1 := World.size_alloc _ _
        generalize (wr.alloc (.cells (Leaf.int n).cells.toArray 51)) = W5 at *
        have hBW5 : B ≤ W5.drew.heap.size := by show B ≤ W5.heap.size; omega
        obtain ⟨d0, d1, d2, d3, d4, d5, d6, _⟩ := hLS.all
        go_region_held3 (fun w' => w'.cell? ⟨C, 0, none⟩ = some (.pointer (some ⟨W, 0, none⟩)) ∧ w'.cell? ⟨W, 1, none⟩ = some (.func (Fn.func 58) #[] #[]) ∧ w'.cell? ⟨W, 2, none⟩ = some (.func (Fn.func 61) #[] #[]) ∧ w'.cell? ⟨wr.heap.size, 0, none⟩ = some (.int .i64 1) ∧ w'.cell? ⟨wr.heap.size, 1, none⟩ = some (.int .i64 n) ∧ w'.cell? ⟨wr.heap.size, 2, none⟩ = some (.string ⟨#[]⟩) ∧ w'.cell? ⟨wr.heap.size, 3, none⟩ = some (.slice none 0 0) ∧ LS W C wr.heap.size (Leaf.int n).cells w') (((try go_split_ands); refine LS.all ?_; repeat (first | assumption | refine LS.drew ?_)))
          (first
            | (refine (write1_any B u0 (pre ++ [3] ++ leb ls.length ++ (ls.take m).flatMap Leaf.enc) n W5.drew (World.ownsRow.drew hown5) hBW5 HL.out hn0 hn1).mono ?_; rintro e w2 ⟨v2, rfl, hown6, hne6, hA6⟩; have hLS6 := hLS.drew.grown (w' := w2) hA6.gr hWl4 hCl4 hXl4; have hA7 := hA5.trans (w'' := w2) (v'' := v2) ⟨⟨hA6.gr.os, hA6.gr.tape, hA6.gr.output, hA6.gr.size, hA6.gr.block⟩, hA6.lies⟩))
        go_wp2_with fail
        go_roundw
        case rel => exact ⟨m + 1, by omega, int_eq (by omega), by rw [htk, List.flatMap_append, ← List.append_assoc]; simpa using hown6, hne6, hA7⟩
        case measure => simp [intOf]; omega
      | text s =>
        have hn0 : s.length ≤ 1000 := hokm
        go_upto_region 5 with fail
        have hLS : LS W C wr.heap.size (Leaf.text s).cells (wr.alloc (.cells (Leaf.text s).cells.toArray 51)) := ⟨⟨hW4.tab.alloc _, hW4.var.alloc _⟩, Blk.new wr _ _⟩
        have hown5 : OwnB (wr.alloc (.cells (Leaf.text s).cells.toArray 51)) B u0 _ := hown4.alloc _
        have hA5 := hA4.alloc (.cells (Leaf.text s).cells.toArray 51)
        change Code.wp _ _ _ _ (wr.alloc (.cells (Leaf.text s).cells.toArray 51))
        have hsz5 : (wr.alloc (.cells (Leaf.text s).cells.toArray 51)).heap.size = wr.heap.size + 1 := World.size_alloc _ _
        generalize (wr.alloc (.cells (Leaf.text s).cells.toArray 51)) = W5 at *
        have hBW5 : B ≤ W5.drew.heap.size := by show B ≤ W5.heap.size; omega
        obtain ⟨d0, d1, d2, d3, d4, d5, d6, _⟩ := hLS.all
        go_region_held3 (fun w' => w'.cell? ⟨C, 0, none⟩ = some (.pointer (some ⟨W, 0, none⟩)) ∧ w'.cell? ⟨W, 1, none⟩ = some (.func (Fn.func 58) #[] #[]) ∧ w'.cell? ⟨W, 2, none⟩ = some (.func (Fn.func 61) #[] #[]) ∧ w'.cell? ⟨wr.heap.size, 0, none⟩ = some (.int .i64 2) ∧ w'.cell? ⟨wr.heap.size, 1, none⟩ = some (.int .i64 0) ∧ w'.cell? ⟨wr.heap.size, 2, none⟩ = some (.string ⟨s.toArray⟩) ∧ w'.cell? ⟨wr.heap.size, 3, none⟩ = some (.slice none 0 0) ∧ LS W C wr.heap.size (Leaf.text s).cells w') (((try go_split_ands); refine LS.all ?_; repeat (first | assumption | refine LS.drew ?_)))
          (first
            | (refine (write2_any B u0 (pre ++ [3] ++ leb ls.length ++ (ls.take m).flatMap Leaf.enc) s W5.drew (World.ownsRow.drew hown5) hBW5 HL.out hn0).mono ?_; rintro e w2 ⟨v2, rfl, hown6, hne6, hA6⟩; have hLS6 := hLS.drew.grown (w' := w2) hA6.gr hWl4 hCl4 hXl4; have hA7 := hA5.trans (w'' := w2) (v'' := v2) ⟨⟨hA6.gr.os, hA6.gr.tape, hA6.gr.output, hA6.gr.size, hA6.gr.block⟩, hA6.lies⟩))
        go_wp2_with fail
        go_roundw
        case rel => exact ⟨m + 1, by omega, int_eq (by omega), by rw [htk, List.flatMap_append, ← List.append_assoc]; simpa using hown6, hne6, hA7⟩
        case measure => simp [intOf]; omega
    · obtain rfl : m = ls.length := by omega
      go_wp2
      go_ret
      refine ⟨_, rfl, ?_, hne4, hA4⟩
      rw [List.take_length] at hown4
      have e : pre ++ [3] ++ leb ls.length ++ ls.flatMap Leaf.enc = pre ++ encF ls := by simp [encF]
      rw [e] at hown4
      exact hown4
end Go.Proofs.YtjibmhmaoegcnaaDoor
namespace Go.Proofs.YtjibmhmaoegcnaaDoor
open Go.RowKit Go.Shelf
set_option linter.unusedVariables false
/-- The four cells of a value stand for a tree; its rows lie in blocks that A lets. -/
inductive TV (w : World) (A : Nat → Prop) : Tree → List Value → Prop
  | int (n : Int) : TV w A (.int n) [.int .i64 1, .int .i64 n, .string ⟨#[]⟩, .slice none 0 0]
  | text (s : List UInt8) : TV w A (.text s) [.int .i64 2, .int .i64 0, .string ⟨s.toArray⟩, .slice none 0 0]
  | nil : TV w A (.list []) [.int .i64 3, .int .i64 0, .string ⟨#[]⟩, .slice none 0 0]
  | list (ts : List Tree) (css : List (List Value)) (b cap : Nat) (hl : css.length = ts.length) (hb : b < w.heap.size) (ha : A b) (hA : At w b 0 css.flatten) (hcs : ∀ i (h : i < ts.length) (h' : i < css.length), TV w A (ts[i]) (css[i])) :
      TV w A (.list ts) [.int .i64 3, .int .i64 0, .string ⟨#[]⟩, .slice (some ⟨b, 0, none⟩) ts.length cap]
theorem TV.mono {w : World} {A A' : Nat → Prop} (h : ∀ b, b < w.heap.size → A b → A' b) {t : Tree} {cs : List Value} (k : TV w A t cs) : TV w A' t cs := by
  induction k with
  | int n => exact .int n
  | text s => exact .text s
  | nil => exact .nil
  | list ts css b cap hl hb ha hA _ ih => exact .list ts css b cap hl hb (h b hb ha) hA ih
theorem TV.grown {w w' : World} {A : Nat → Prop} {row : Option Nat} (hg : Gr w row w') (h : ∀ b, A b → some b ≠ row) {t : Tree} {cs : List Value} (k : TV w A t cs) : TV w' A t cs := by
  induction k with
  | int n => exact .int n
  | text s => exact .text s
  | nil => exact .nil
  | list ts css b cap hl hb ha hA _ ih => exact .list ts css b cap hl (Nat.lt_of_lt_of_le hb hg.size) ha (hA.grown hg (h b ha)) ih
theorem TV.form {w : World} {A : Nat → Prop} {t : Tree} {cs : List Value} (k : TV w A t cs) : ∃ a n s p m c, cs = [.int .i64 a, .int .i64 n, .string s, .slice p m c] := by
  cases k <;> exact ⟨_, _, _, _, _, _, rfl⟩
/-- A thing n times, when some have been read. -/
def repGo (ts : List Tree) (o : Option (List Tree × List UInt8)) : Option (List Tree × List UInt8) := o.map fun p => (ts ++ p.1, p.2)
theorem repGo_nil (o : Option (List Tree × List UInt8)) : o = repGo [] o := by cases o <;> simp [repGo]
theorem rep_none {f : List UInt8 → Option (Tree × List UInt8)} {m : Nat} {l : List UInt8} {ts : List Tree} (h : f l = none) : repGo ts (rep f (m + 1) l) = none := by simp [rep, h, repGo]
theorem rep_some {f : List UInt8 → Option (Tree × List UInt8)} {m : Nat} {l r : List UInt8} {t : Tree} {ts : List Tree} (h : f l = some (t, r)) : repGo ts (rep f (m + 1) l) = repGo (ts ++ [t]) (rep f m r) := by
  simp only [rep, h]
  cases rep f m r with
  | none => rfl
  | some p => simp [repGo]
theorem rep_end {f : List UInt8 → Option (Tree × List UInt8)} {l : List UInt8} {ts : List Tree} : repGo ts (rep f 0 l) = some (ts, l) := by simp [rep, repGo]
theorem info_value : ∃ i, (Tryd.prog).info? 51 = some i ∧ i.zero = some (.agg #[.int .i64 0, .int .i64 0, .string ⟨#[]⟩, .slice none 0 0]) ∧ i.size = 4 ∧ i.bytes = 56 := by
  have h : ((Tryd.prog).info? 51).map (fun i => (i.zero, i.size, i.bytes)) = some (some (.agg #[.int .i64 0, .int .i64 0, .string ⟨#[]⟩, .slice none 0 0]), 4, 56) := by kernel_rfl
  cases hq : (Tryd.prog).info? 51 with
  | none => simp [hq] at h
  | some i => simp [hq] at h; exact ⟨i, rfl, h.1, h.2.1, h.2.2⟩
/-- A row of values that the call owns. -/
abbrev OwnV (w : World) (B : Nat) (v : Value) (css : List (List Value)) : Prop := w.ownsRow B 51 4 v css.length css.flatten
/-- A value is appended, in a region that draws. -/
theorem step_value {ops : Array Oper} {o : Oper} {a : Act} {K : Act → World → Prop} {Q : Exit → Act → World → Prop} {E : Prop} (hgd : o.guard = none) (s x : Operand)
    (ho : o.op = .call { callee := .builtin .append, args := #[s, x], argTypes := #[49, 49] }) (B : Nat) (v : Value) (css : List (List Value)) (W : World) (k n : Int) (t : ByteArray) (p : Option Addr) (m c : Nat)
    (hs : a.eval s = v) (hown : OwnV W B v css) (hB : B ≤ W.heap.size) (hlen : css.length ≤ 1500000) (H : Nat) (hW : W.heap.size = H) (hx : a.eval x = .slice (some ⟨H, 0, none⟩) 1 1)
    (h : ∀ g cap w1, OwnV w1 B (.slice (some ⟨g, 0, none⟩) (css.length + 1) cap) (css ++ [[.int .i64 k, .int .i64 n, .string t, .slice p m c]]) → Gr W v.ownBlock w1 → (v.ownBlock = some g ∨ W.heap.size ≤ g) → g < w1.heap.size → K (a.put o.dst (.slice (some ⟨g, 0, none⟩) (css.length + 1) cap)) w1) :
    if Region.wanted o (yielded ops a.tmps) = true then Oper.wp Tryd.prog o a ((W.alloc (.cells #[.int .i64 k, .int .i64 n, .string t, .slice p m c] 51)).drew) K Q else E := by
  obtain ⟨i0, hi, hz0, hz1, hz2⟩ := info_value
  subst hW
  refine step_append_lies _ hgd s x 49 ho B 51 i0 _ 4 56 Tryd.underlying49 hi hz0 hz1 hz2 rfl (by decide) v css.length css.flatten hs (World.ownsRow.drew (hown.alloc _)) ⟨W.heap.size, 0, none⟩ 1 1 [.int .i64 k, .int .i64 n, .string t, .slice p m c] hx rfl ?_ ?_ (by decide) (by unfold maxLen; omega) (by omega)
    (by show B ≤ (W.alloc _).heap.size; rw [World.size_alloc]; omega) (W.heap.size + 1) (by show (W.alloc _).heap.size = _; rw [World.size_alloc]) ?_
  · intro j u hj
    obtain ⟨hl, e⟩ := List.getElem?_eq_some_iff.1 hj
    have := at_new W [.int .i64 k, .int .i64 n, .string t, .slice p m c] 51 j hl
    rw [Addr.add_lit, ← e]
    exact this
  · intro u hu
    simp only [List.mem_cons, List.not_mem_nil, or_false] at hu
    rcases hu with rfl | rfl | rfl | rfl <;> rfl
  intro g cap w1 hown1 hgrow hat hlt
  refine h g cap w1 ?_ (((Gr.refl W _).alloc _).drew.trans hgrow) ?_ hlt
  · show w1.ownsRow _ _ _ _ _ _
    rw [List.length_append, List.length_singleton, List.flatten_append, List.flatten_singleton]
    exact hown1
  rcases hat with e | e
  · exact .inl e
  · exact .inr (by omega)
end Go.Proofs.YtjibmhmaoegcnaaDoor
namespace Go.Proofs.YtjibmhmaoegcnaaDoor
open Go.RowKit Go.Shelf
set_option linter.unusedVariables false
attribute [local go_sem ↓] Go.wp_at_zero Go.wp_at_succ
/-- What value leaves. -/
def VPost (w : World) (rb db : Nat) (o : Option (Tree × List UInt8)) (e : Ending) (w' : World) : Prop :=
  match o with
  | some (t, r) => (∃ k n s p m c, e = .returned (.agg #[.int .i64 k, .int .i64 n, .string s, .slice p m c]) ∧ TV w' (fun b => w.heap.size ≤ b) t [.int .i64 k, .int .i64 n, .string s, .slice p m c]) ∧ RD w' rb db r ∧ Gr w (some rb) w'
  | none => e = .panicked codePanic ∧ Gr w (some rb) w'
set_option maxHeartbeats 1000000 in
set_option maxRecDepth 100000 in
theorem value_nil (rb db : Nat) (dep : Int) (w : World) (hR : RN w rb db []) (hrb : rb < w.heap.size) :
    Calls Tryd.prog 51 #[.pointer (some ⟨rb, 0, none⟩), .int .i64 dep] w fun e w' => e = .panicked codePanic ∧ Gr w (some rb) w' := by
  have hG0 : Gr w none (w.alloc (.cells #[.int .i64 0, .int .i64 0, .string ⟨#[]⟩, .slice none 0 0] 51)) := (Gr.refl _ _).alloc _
  have hR0 : RN (w.alloc (.cells #[.int .i64 0, .int .i64 0, .string ⟨#[]⟩, .slice none 0 0] 51)) rb db [] := by
    rcases hR with ⟨h1, h2⟩ | h
    · exact .inl ⟨h1, h2.alloc _⟩
    · exact .inr (h.new hG0)
  go_enter Tryd.func51, Tryd.ntmps51
  go_wp2_with (go_at_call 74; refine (take_bad rb db 1 [] _ hR0 (by simp)).mono ?_; rintro e w' ⟨rfl, rfl⟩)
  exact ⟨rfl, rfl, (Gr.refl _ _).alloc _⟩
/-- The value's own variable, while the reader reads. -/
structure VX (w : World) (rb db : Nat) (l : List UInt8) (x : List Value) (w' : World) : Prop where
  gr : Gr w (some rb) w'
  blk : Blk w' w.heap.size 51 x
  rd : RD w' rb db l
theorem VX.all {w w' : World} {rb db : Nat} {l : List UInt8} {x0 x1 x2 x3 : Value} (h : VX w rb db l [x0, x1, x2, x3] w') : w'.cell? ⟨w.heap.size, 0, none⟩ = some x0 ∧ w'.cell? ⟨w.heap.size, 1, none⟩ = some x1 ∧ w'.cell? ⟨w.heap.size, 2, none⟩ = some x2 ∧ w'.cell? ⟨w.heap.size, 3, none⟩ = some x3 ∧
    w'.frozen? ⟨w.heap.size, 0, none⟩ = false ∧ w'.frozen? ⟨w.heap.size, 1, none⟩ = false ∧ w'.frozen? ⟨w.heap.size, 2, none⟩ = false ∧ w'.frozen? ⟨w.heap.size, 3, none⟩ = false :=
  ⟨h.blk.cell? 0, h.blk.cell? 1, h.blk.cell? 2, h.blk.cell? 3, h.blk.free 0, h.blk.free 1, h.blk.free 2, h.blk.free 3⟩
theorem VX.on {w w' w'' : World} {rb db : Nat} {l r : List UInt8} {x : List Value} (h : VX w rb db l x w') (hrb : rb < w.heap.size) (k : Gr w' (some rb) w'') (hr : RD w'' rb db r) : VX w rb db r x w'' :=
  ⟨h.gr.trans k, h.blk.grown k (by simp; omega), hr⟩
theorem VX.put {w w' : World} {rb db : Nat} {l : List UInt8} {x : List Value} (h : VX w rb db l x w') (hrb : rb < w.heap.size) (hdb : db < w.heap.size) (i : Nat) (v : Value) : VX w rb db l (x.set i v) (w'.setCell ⟨w.heap.size, i, none⟩ v) :=
  ⟨h.gr.setCell (.inl (Nat.le_refl _)) v, h.blk.set i v, h.rd.grown ((Gr.refl w' (some w.heap.size)).setCell (.inr rfl) v) (by simp; omega) (by simp; omega)⟩
theorem RD.db_lt {w : World} {rb db : Nat} {l : List UInt8} (h : RD w rb db l) : db < w.heap.size := by
  obtain ⟨o, cap, hB, h3, h4, h5, h6, h7⟩ := h.ex
  exact h5
theorem results_val (w w' : World) (tmps : Array Value) (x0 x1 x2 x3 : Value) (hp : tmps.getD 4 undef = .pointer (some ⟨w.heap.size, 0, none⟩)) (hB : Blk w' w.heap.size 51 [x0, x1, x2, x3]) : (results Tryd.f51 tmps).run Tryd.prog w' = .ok (.agg #[x0, x1, x2, x3]) w' := by
  refine results_cell_row rfl _ _ _ _ _ _ _ hp hB Tryd.underlying51 rfl (by kernel_rfl)
set_option maxHeartbeats 1000000 in
set_option maxRecDepth 100000 in
theorem value_int (d rb db : Nat) (l : List UInt8) (c : UInt8) (hc : c.toNat = 1) (dep : Int) (w : World) (hR : RD w rb db (c :: l)) (hl : l.length < 1000000) (hrb : rb < w.heap.size) :
    Calls Tryd.prog 51 #[.pointer (some ⟨rb, 0, none⟩), .int .i64 dep] w fun e w' => VPost w rb db (valD d (c :: l)) e w' := by
  have hG0 : Gr w none (w.alloc (.cells #[.int .i64 0, .int .i64 0, .string ⟨#[]⟩, .slice none 0 0] 51)) := (Gr.refl _ _).alloc _
  have hR0 := hR.new hG0
  have hB0 := Blk.new w 51 [.int .i64 0, .int .i64 0, .string ⟨#[]⟩, .slice none 0 0]
  have hc' : (c.toNat : Int) = 1 := by omega
  go_enter Tryd.func51, Tryd.ntmps51
  go_upto_region 2 with (go_at_call 74; refine (take1_ok rb db c l _ hR0 hl).mono ?_; rintro e w' ⟨b, o, rfl, hcell, hR1, hG1⟩; have hV1 : VX w rb db l [.int .i64 0, .int .i64 0, .string ⟨#[]⟩, .slice none 0 0] w' := ⟨((Gr.refl w (some rb)).alloc _).trans hG1, hB0.grown hG1 (by simp; omega), hR1⟩; obtain ⟨c0, c1, c2, c3, f0, f1, f2, f3⟩ := hV1.all)
  have hV2 := hV1.put hrb hR.db_lt 0 (.int .i64 1)
  clear c0 c1 c2 c3 f0 f1 f2 f3 hR1
  generalize (w'.setCell ⟨w.heap.size, 0, none⟩ (.int .i64 1)) = W at *
  obtain ⟨c0, c1, c2, c3, f0, f1, f2, f3⟩ := hV2.all
  have hN := number_any rb db l W hV2.rd (by omega)
  cases hn : numD 0 l with
  | none =>
    have hD : valD d (c :: l) = none := by rw [valD_cons, if_pos hc, hn]
    rw [hn] at hN
    go_wp2_with (go_at_call 76; refine hN.mono ?_; rintro e w3 ⟨rfl, hG3⟩)
    refine ⟨rfl, ?_⟩
    rw [hD]
    exact ⟨rfl, hV2.gr.trans hG3⟩
  | some p =>
    obtain ⟨u, r⟩ := p
    have HU := Lib.hid (numD_lt0 hn)
    have hD : valD d (c :: l) = some (.int (zag u), r) := by rw [valD_cons, if_pos hc, hn]
    rw [hn] at hN
    go_wp2_with (first | (go_at_call 76; refine hN.mono ?_; rintro e w3 ⟨rfl, hR3, hG3⟩; have hV3 := hV2.on hrb hG3 hR3; obtain ⟨d0, d1, d2, d3, g0, g1, g2, g3⟩ := hV3.all) | (go_at_call 75; refine (signed_any u _ HU.out).mono ?_; rintro e w4 ⟨rfl, rfl⟩))
    have hV4 := hV3.put hrb hR.db_lt 1 (.int .i64 (zag u))
    have hV5 := (((hV4.put hrb hR.db_lt 0 (.int .i64 1)).put hrb hR.db_lt 1 (.int .i64 (zag u))).put hrb hR.db_lt 2 (.string ⟨#[]⟩)).put hrb hR.db_lt 3 (.slice none 0 0)
    refine bodyPost_ret (results_val w _ _ _ _ _ _ rfl hV5.blk) rfl ?_
    rw [hD]
    exact ⟨⟨_, _, _, _, _, _, rfl, .int _⟩, hV5.rd, hV5.gr⟩
theorem conv_text (w : World) (b o n : Nat) (s : List UInt8) (hA : At w b o (s.map B8)) (hl : s.length = n) : (convert 28 9 (.slice (some ⟨b, o, none⟩) n n)).run Tryd.prog w = .ok (.string ⟨s.toArray⟩) w := by
  subst hl
  refine run_convert_bytes_back w 28 9 5 ⟨b, o, none⟩ s.length s Tryd.underlying28 Tryd.underlying5 Tryd.underlying9 ?_
  intro j hj
  rw [Addr.add_lit]
  have := hA j (by simpa using hj)
  rw [this, List.getElem_map]; rfl
set_option maxHeartbeats 1000000 in
set_option maxRecDepth 100000 in
theorem value_text (d rb db : Nat) (l : List UInt8) (c : UInt8) (hc : c.toNat = 2) (dep : Int) (w : World) (hR : RD w rb db (c :: l)) (hl : l.length < 1000000) (hrb : rb < w.heap.size) :
    Calls Tryd.prog 51 #[.pointer (some ⟨rb, 0, none⟩), .int .i64 dep] w fun e w' => VPost w rb db (valD d (c :: l)) e w' := by
  have hG0 : Gr w none (w.alloc (.cells #[.int .i64 0, .int .i64 0, .string ⟨#[]⟩, .slice none 0 0] 51)) := (Gr.refl _ _).alloc _
  have hR0 := hR.new hG0
  have hB0 := Blk.new w 51 [.int .i64 0, .int .i64 0, .string ⟨#[]⟩, .slice none 0 0]
  have hc' : (c.toNat : Int) = 2 := by omega
  go_enter Tryd.func51, Tryd.ntmps51
  go_upto_region 2 with (go_at_call 74; refine (take1_ok rb db c l _ hR0 hl).mono ?_; rintro e w' ⟨b, o, rfl, hcell, hR1, hG1⟩; have hV1 : VX w rb db l [.int .i64 0, .int .i64 0, .string ⟨#[]⟩, .slice none 0 0] w' := ⟨((Gr.refl w (some rb)).alloc _).trans hG1, hB0.grown hG1 (by simp; omega), hR1⟩; obtain ⟨c0, c1, c2, c3, f0, f1, f2, f3⟩ := hV1.all)
  have hV2 := hV1.put hrb hR.db_lt 0 (.int .i64 2)
  clear c0 c1 c2 c3 f0 f1 f2 f3 hR1
  generalize (w'.setCell ⟨w.heap.size, 0, none⟩ (.int .i64 2)) = W at *
  obtain ⟨c0, c1, c2, c3, f0, f1, f2, f3⟩ := hV2.all
  have hN := length_any rb db l W hV2.rd (by omega)
  cases hn : lenD l with
  | none =>
    have hD : valD d (c :: l) = none := by rw [valD_cons, if_neg (by omega), if_pos hc, hn]
    rw [hn] at hN
    go_wp2_with (go_at_call 77; refine hN.mono ?_; rintro e w3 ⟨rfl, hG3⟩)
    refine ⟨rfl, ?_⟩
    rw [hD]
    exact ⟨rfl, hV2.gr.trans hG3⟩
  | some p =>
    obtain ⟨n, r⟩ := p
    have hD : valD d (c :: l) = some (.text (r.take n), r.drop n) := by rw [valD_cons, if_neg (by omega), if_pos hc, hn]
    rw [hn] at hN
    obtain ⟨hr1, hr2⟩ := lenD_suffix hn
    have hr3 : r.length ≤ 1000000 := by omega
    go_wp2_with (first | (go_at_call 77; refine hN.mono ?_; rintro e w3 ⟨rfl, hR3, hG3⟩; have hV3 := hV2.on hrb hG3 hR3) | (go_at_call 74; refine (take_ok rb db n r _ hR3 hr2 hr3).mono ?_; rintro e w4 ⟨o4, rfl, hA4, hR4, hG4⟩; have hV4 := hV3.on hrb hG4 hR4; obtain ⟨d0, d1, d2, d3, g0, g1, g2, g3⟩ := hV4.all; have hcv := conv_text w4 db o4 n (r.take n) hA4 (by simp; omega)))
    have hV5 := ((((hV4.put hrb hR.db_lt 2 (.string ⟨(r.take n).toArray⟩)).put hrb hR.db_lt 0 (.int .i64 2)).put hrb hR.db_lt 1 (.int .i64 0)).put hrb hR.db_lt 2 (.string ⟨(r.take n).toArray⟩)).put hrb hR.db_lt 3 (.slice none 0 0)
    refine bodyPost_ret (results_val w _ _ _ _ _ _ rfl hV5.blk) rfl ?_
    rw [hD]
    exact ⟨⟨_, _, _, _, _, _, rfl, .text _⟩, hV5.rd, hV5.gr⟩
set_option maxHeartbeats 1000000 in
set_option maxRecDepth 100000 in
theorem value_odd (d rb db : Nat) (l : List UInt8) (c : UInt8) (hc1 : c.toNat ≠ 1) (hc2 : c.toNat ≠ 2) (hc3 : c.toNat ≠ 3) (dep : Int) (w : World) (hR : RD w rb db (c :: l)) (hl : l.length < 1000000) (hrb : rb < w.heap.size) :
    Calls Tryd.prog 51 #[.pointer (some ⟨rb, 0, none⟩), .int .i64 dep] w fun e w' => VPost w rb db (valD d (c :: l)) e w' := by
  have hG0 : Gr w none (w.alloc (.cells #[.int .i64 0, .int .i64 0, .string ⟨#[]⟩, .slice none 0 0] 51)) := (Gr.refl _ _).alloc _
  have hR0 := hR.new hG0
  have hB0 := Blk.new w 51 [.int .i64 0, .int .i64 0, .string ⟨#[]⟩, .slice none 0 0]
  have hD : valD d (c :: l) = none := by rw [valD_cons, if_neg hc1, if_neg hc2, if_neg hc3]
  have i1 : ¬ (c.toNat : Int) = 1 := by omega
  have i2 : ¬ (c.toNat : Int) = 2 := by omega
  have i3 : ¬ (c.toNat : Int) = 3 := by omega
  go_enter Tryd.func51, Tryd.ntmps51
  go_upto_region 2 with (go_at_call 74; refine (take1_ok rb db c l _ hR0 hl).mono ?_; rintro e w' ⟨b, o, rfl, hcell, hR1, hG1⟩; have hV1 : VX w rb db l [.int .i64 0, .int .i64 0, .string ⟨#[]⟩, .slice none 0 0] w' := ⟨((Gr.refl w (some rb)).alloc _).trans hG1, hB0.grown hG1 (by simp; omega), hR1⟩; obtain ⟨c0, c1, c2, c3, f0, f1, f2, f3⟩ := hV1.all)
  have hV2 := hV1.put hrb hR.db_lt 0 (.int .i64 c.toNat)
  clear c0 c1 c2 c3 f0 f1 f2 f3 hR1
  have hwr : wrap64 (c.toNat : Int) = c.toNat := by have := c.toNat_lt; unfold wrap64; omega
  rw [hwr]
  generalize (w'.setCell ⟨w.heap.size, 0, none⟩ (.int .i64 c.toNat)) = W at *
  obtain ⟨c0, c1, c2, c3, f0, f1, f2, f3⟩ := hV2.all
  go_wp2_with (go_at_call 52; refine (want_false _ _).mono ?_; rintro e w3 ⟨rfl, rfl⟩)
  refine ⟨rfl, ?_⟩
  rw [hD]
  exact ⟨rfl, hV2.gr⟩
end Go.Proofs.YtjibmhmaoegcnaaDoor
