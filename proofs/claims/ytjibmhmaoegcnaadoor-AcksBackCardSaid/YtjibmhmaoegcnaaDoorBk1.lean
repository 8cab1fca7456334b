/- Parts of a proof, joined by program: Back. -/
import Derived.Test.YtjibmhmaoegcnaaDoorK12
namespace Go.Proofs.YtjibmhmaoegcnaaDoor
open Go.RowKit Go.Shelf
set_option linter.unusedVariables false
set_option linter.unusedSimpArgs false
/-- A slice of bytes that came in: nil, or bytes. -/
def InB (w : World) (v : Value) (l : List UInt8) : Prop := (v = .slice none 0 0 ∧ l = []) ∨ Bytes w v l
theorem InB.new {w w' : World} {v : Value} {l : List UInt8} (h : InB w v l) (hg : Gr w none w') : InB w' v l := h.imp id (fun k => k.new hg)
theorem InB.form {w : World} {v : Value} {l : List UInt8} (h : InB w v l) : ∃ p c, v = .slice p l.length c := by
  rcases h with ⟨rfl, rfl⟩ | h
  · exact ⟨none, 0, rfl⟩
  · obtain ⟨b, o, cap, rfl, _⟩ := h.ex
    exact ⟨_, _, rfl⟩
theorem ackDecV_nil : ackDecV [] = (zeroAck, 10) := by
  have e : decD [] = none := by unfold decD valD; rfl
  unfold ackDecV
  rw [e]
theorem ackDec_in (v : Value) (l : List UInt8) (w : World) (hv : InB w v l) (hl : l.length ≤ 1000000) :
    Calls Tryd.prog 11 #[v] w fun e w' => e = .returned (.tuple #[.agg (ackDecV l).1.cells.toArray, .int .i64 (ackDecV l).2]) ∧ Gr w none w' := by
  rcases hv with ⟨rfl, rfl⟩ | h
  · rw [ackDecV_nil]; exact ackDec_nil w
  · exact ackDec_bytes v l w h hl
theorem wl_convert_run {P : Program} {ops : Array Oper} {rest : List Oper} {o : Oper} {a : Act} {w : World} {Q : Exit → Act → World → Prop} (hw : Region.wanted o (yielded ops a.tmps) = true) (s d : TypeId) (x : Operand) (ho : o.op = .convert s d x)
    (v u : Value) (hx : a.eval x = u) (hr : (convert s d u).run P w = .ok v w) (h : wpList P ops Q rest (a.put o.dst v) w) : wpList P ops Q (o :: rest) a w :=
  wpList_step fun K hK => by
    rw [if_pos hw]
    unfold Oper.wp execOp
    simp [ho, hx, hr, Result.andThen]
    exact hK _ _ h
set_option maxHeartbeats 2000000 in
set_option maxRecDepth 100000 in
theorem back_long (a : Ack) (p : Option Addr) (n c : Nat) (w : World) (hn : 300 < n) (ha : a.ch.length = 32) (hK : Laid w) :
    Calls Tryd.prog 7 #[.agg a.cells.toArray, .slice p n c] w fun e w' => e = .returned (.bool true) ∧ Gr w none w' := by
  have hG := (Gr.refl w none).alloc (.cells a.cells.toArray 27)
  have hn' : (300 : Int) < (n : Int) := by omega
  go_enter Tryd.func7, Tryd.ntmps7
  go_upto_region 1 with fail
  change Code.wp _ _ _ _ (w.alloc (.cells a.cells.toArray 27))
  generalize (w.alloc (.cells a.cells.toArray 27)) = W at *
  go_wp2_with (go_at_call 8; refine (sane_any W (hK.new hG)).mono ?_; rintro e w1 ⟨rfl, hG1⟩)
  go_ret
  exact ⟨rfl, hG.trans hG1⟩
theorem conv_in (w : World) (v : Value) (l : List UInt8) (h : Bytes w v l) : (convert 28 9 v).run Tryd.prog w = .ok (.string ⟨l.toArray⟩) w := by
  obtain ⟨b, o, cap, rfl, h1, h2, h3, h4⟩ := h.ex
  exact conv_bytes w b o cap l h4
set_option maxHeartbeats 2000000 in
set_option maxRecDepth 100000 in
theorem back_short (a : Ack) (v : Value) (l : List UInt8) (w : World) (hl : l.length ≤ 300) (hv : InB w v l) (ha : a.ch.length = 32) (hi : a.ints) (hK : Laid w) :
    Calls Tryd.prog 7 #[.agg a.cells.toArray, v] w fun e w' => e = .returned (.bool true) ∧ Gr w none w' := by
  have hz : zeroAck.ch.length = 32 := rfl
  have hzi : zeroAck.ints := zeroAck_ints
  have hin : ((Tryd.prog).info? 27).map (·.size) = some a.cells.length := by rw [Ack.cells_length _ ha]; kernel_rfl
  have hG := (Gr.refl w none).alloc (.cells a.cells.toArray 27)
  have hA := Blk.new w 27 a.cells
  obtain ⟨p0, c0, rfl⟩ := hv.form
  have hl' : ¬ (300 : Int) < (l.length : Int) := by omega
  have hae : (!decide (a = a)) = false := by simp
  have hDa := ackDecV_enc a ha hi
  have hxc := ackDecV_ch l
  have hxi := ackDecV_ints l
  have hxb := ackDecV_back l
  obtain ⟨x, hx⟩ : ∃ x, x = (ackDecV l).1 := ⟨_, rfl⟩
  obtain ⟨y, hy⟩ : ∃ y, y = (ackDecV l).2 := ⟨_, rfl⟩
  have hD := fun w h => ackDec_in (.slice p0 l.length c0) l w h (by omega)
  have hnil := Lib.hid (show y = 0 → l ≠ [] by rw [hy]; intro h0 h1; rw [h1, ackDecV_nil] at h0; cases h0)
  rw [← hx] at hxc hxi hxb hD
  rw [← hy] at hxb hD
  clear hx hy
  have hinx : ((Tryd.prog).info? 27).map (·.size) = some x.cells.length := by rw [Ack.cells_length _ hxc]; kernel_rfl
  have HXB := Lib.hid hxb
  have HL := Lib.hid hl
  clear hxb hl
  go_enter Tryd.func7, Tryd.ntmps7
  go_upto_region 1 with fail
  change Code.wp _ _ _ _ (w.alloc (.cells a.cells.toArray 27))
  generalize (w.alloc (.cells a.cells.toArray 27)) = W at *
  generalize w.heap.size = XA at *
  cases hf : a.formed
  case' true =>
    go_upto_region 13 with (first
      | (go_at_call 8; refine (sane_any W (hK.new hG)).mono ?_; rintro e w1 ⟨rfl, hG1⟩; have hA1 := hA.grown hG1 (by simp))
      | (refine wl_load_blk rfl 27 _ rfl XA a.cells _ _ hA1 rfl Tryd.underlying27 rfl hin ?_)
      | (go_at_call 9; refine (ackEncode_any a w1 ha hi).mono ?_; intro e w2 hE; obtain ⟨hG2, v2, rfl, hown2, hne2⟩ := hE.yes hf; have hA2 := hA1.grown hG2 (by simp))
      | (go_at_call 11; (with_reducible refine (ackDec_bytes v2 a.enc w2 (hown2.bytes hne2) (enc_short a ha hi)).mono ?_); rintro e w3 ⟨rfl, hG3⟩; rw [hDa hf]; have hA3 := (hA2.grown hG3 (by simp)).alloc (.cells a.cells.toArray 27); have hX3 := Blk.new w3 27 a.cells)
      | (refine wl_store_new rfl 27 _ _ rfl a.cells _ _ rfl rfl (by kernel_rfl) (by rw [Ack.cells_length _ ha]; rfl) (Ack.cells_one _) ?_)
      | (refine wl_load_blk_g (by rfl) 27 _ rfl XA a.cells _ _ hA3 rfl Tryd.underlying27 rfl hin ?_)
      | (refine wl_load_blk_g (by rfl) 27 _ rfl w3.heap.size a.cells _ _ hX3 rfl Tryd.underlying27 rfl hin ?_)
      | (refine wl_neq_ack (by rfl) _ _ _ rfl a a rfl rfl ha ha hi hi ?_)
      | (go_at_call 11; refine (hD _ (hv.new (((hG.trans hG1).trans (hG2.trans hG3)).alloc (.cells a.cells.toArray 27)))).mono ?_; rintro e w4 ⟨rfl, hG4⟩)
      | (refine wl_store_new rfl 27 _ _ rfl x.cells _ _ rfl rfl (by kernel_rfl) (by rw [Ack.cells_length _ hxc]; rfl) (Ack.cells_one _) ?_))
    have hGz := ((((hG.trans hG1).trans (hG2.trans hG3)).alloc (.cells a.cells.toArray 27)).trans hG4).alloc (.cells x.cells.toArray 27)
  case' false =>
    have hCk : ackCheckV a 4 = 330 := by unfold ackCheckV; rw [hf]; rfl
    go_upto_region 13 with (first
      | (go_at_call 8; refine (sane_any W (hK.new hG)).mono ?_; rintro e w1 ⟨rfl, hG1⟩; have hA1 := hA.grown hG1 (by simp))
      | (refine wl_load_blk rfl 27 _ rfl XA a.cells _ _ hA1 rfl Tryd.underlying27 rfl hin ?_)
      | (go_at_call 9; refine (ackEncode_any a w1 ha hi).mono ?_; intro e w2 hE; obtain ⟨hG2, rfl⟩ := hE.no hf; have hA2 := hA1.grown hG2 (by simp))
      | (refine wl_load_blk_g (by rfl) 27 _ rfl XA a.cells _ _ hA2 rfl Tryd.underlying27 rfl hin ?_)
      | (go_at_call 22; refine (ackCheck_any a 4 w2 ha hi ((hK.new hG).new (hG1.trans hG2))).mono ?_; rintro e w3 ⟨rfl, hG3⟩; rw [hCk])
      | (go_at_call 11; refine (hD w3 (hv.new ((hG.trans hG1).trans (hG2.trans hG3)))).mono ?_; rintro e w4 ⟨rfl, hG4⟩)
      | (refine wl_store_new rfl 27 _ _ rfl x.cells _ _ rfl rfl (by kernel_rfl) (by rw [Ack.cells_length _ hxc]; rfl) (Ack.cells_one _) ?_))
    have hGz := (((hG.trans hG1).trans (hG2.trans hG3)).trans hG4).alloc (.cells x.cells.toArray 27)
  all_goals
    have hX := Blk.new w4 27 x.cells
    change Code.wp _ _ _ _ (w4.alloc (.cells x.cells.toArray 27))
    clear hG1 hG2 hG3 hG4 hA hA1 hA2
    generalize (w4.alloc (.cells x.cells.toArray 27)) = Wz at *
    generalize w4.heap.size = XX at *
    rcases HXB.out with ⟨hy0, hxf, hxe⟩ | ⟨hy0, hxz⟩
    · subst hy0
      have hvB : Bytes Wz (.slice p0 l.length c0) l := by
        rcases hv.new hGz with ⟨_, e⟩ | h
        · exact absurd e (hnil.out rfl)
        · exact h
      have HE := Lib.hid hxe
      clear hxe
      have hcl := fun w' (h : Gr Wz none w') => conv_in w' (.slice p0 l.length c0) l (hvB.new h)
      go_wp2_with (first
        | (refine wl_load_blk rfl 27 _ rfl XX x.cells _ _ hX rfl Tryd.underlying27 rfl hinx ?_)
        | (go_at_call 9; refine (ackEncode_any x Wz hxc hxi).mono ?_; intro e w5 hE5; obtain ⟨hG5, v5, rfl, hown5, hne5⟩ := hE5.yes hxf; rw [HE.out] at hown5; have hv5 := hown5.bytes hne5)
        | (refine wl_convert_run (by rfl) 28 9 _ rfl _ v5 rfl (conv_in w5 v5 l hv5) ?_)
        | (refine wl_convert_run (by rfl) 28 9 _ rfl _ (.slice p0 l.length c0) rfl (hcl w5 hG5) ?_))
      go_ret
      exact ⟨rfl, hGz.trans hG5⟩
    · subst hxz
      have hy1 : (y == 0) = false := by simp [hy0]
      have HY := Lib.hid hy0
      clear hy0
      go_wp2_with (first
        | (refine wl_load_blk rfl 27 _ rfl XX zeroAck.cells _ _ hX rfl Tryd.underlying27 rfl hinx ?_)
        | (refine wl_eql_ack (by rfl) _ _ _ rfl zeroAck zeroAck rfl rfl hz hz hzi hzi ?_))
      go_ret
      exact ⟨rfl, hGz⟩
theorem back_any (a : Ack) (p : Option Addr) (n c : Nat) (w : World) (ha : a.ch.length = 32) (hi : a.ints) (hK : Laid w) (hv : n ≤ 300 → ∃ l : List UInt8, l.length = n ∧ InB w (.slice p n c) l) :
    Calls Tryd.prog 7 #[.agg a.cells.toArray, .slice p n c] w fun e w' => e = .returned (.bool true) ∧ Gr w none w' := by
  by_cases h : n ≤ 300
  · obtain ⟨l, hl, h2⟩ := hv h
    exact back_short a _ l w (by omega) h2 ha hi hK
  · exact back_long a p n c w (by omega) ha hK
end Go.Proofs.YtjibmhmaoegcnaaDoor
