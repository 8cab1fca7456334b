/- Parts of a proof, joined by program: AckEq, SaneV, Same. -/
import Derived.Test.YtjibmhmaoegcnaaDoorK9
import Derived.DeepKeys2
namespace Go.Proofs.YtjibmhmaoegcnaaDoor
open Go.RowKit Go.Shelf
set_option linter.unusedVariables false
theorem mapM_someL {α β : Type} {f : α → Option β} {g : α → β} : ∀ {l : List α}, (∀ x ∈ l, f x = some (g x)) → l.mapM f = some (l.map g)
  | [], _ => rfl
  | x :: l, h => by
    rw [List.mapM_cons, h x (by simp), mapM_someL (fun y hy => h y (by simp [hy]))]
    rfl
theorem kl_int (d : Nat) (n : Int) (h : (Leaf.int n).ok) : (Tryd.prog).keyLits (d + 1) 3 [.int .i64 n] = some [.int .i64 n] := by
  have hu : (Tryd.prog).underlying 3 = some (.int .i64) := by kernel_rfl
  unfold Program.keyLits
  simp only [hu]
  rw [if_pos]
  have h' : -9223372036854775808 ≤ n ∧ n < 9223372036854775808 := h
  have h1 : IntKind.min .i64 = -9223372036854775808 := by decide
  have h2 : IntKind.max .i64 = 9223372036854775807 := by decide
  simp only [Lit.wf, h1, h2, true_and, Bool.and_eq_true, decide_eq_true_eq]
  omega
theorem kl_b8 (d : Nat) (c : UInt8) : (Tryd.prog).keyLits (d + 1) 5 [B8 c] = some [.int .u8 (c.toNat : Int)] := by
  have hu : (Tryd.prog).underlying 5 = some (.int .u8) := by kernel_rfl
  unfold Program.keyLits B8
  simp only [hu]
  rw [if_pos]
  have := c.toNat_lt
  have h1 : IntKind.min .u8 = 0 := by decide
  have h2 : IntKind.max .u8 = 255 := by decide
  simp only [Lit.wf, h1, h2, true_and, Bool.and_eq_true, decide_eq_true_eq]
  omega
theorem kl_ch (d : Nat) (ch : List UInt8) (h : ch.length = 32) : ∃ l, (Tryd.prog).keyLits (d + 2) 23 (ch.map B8) = some l := by
  have h1 : (Tryd.prog).cellsOf 5 = 1 := by kernel_rfl
  have h2 : (Tryd.prog).cellsOf 23 = 32 := by kernel_rfl
  unfold Program.keyLits
  simp only [Tryd.underlying23, h1, h2, List.length_map, h, if_true]
  rw [mapM_someL (g := fun i => [.int .u8 ((ch.getD i 0).toNat : Int)])]
  · exact ⟨_, rfl⟩
  · intro i hi
    have hi : i < 32 := by simpa using hi
    have e : List.take 1 (List.drop (i * 1) (ch.map B8)) = [B8 (ch.getD i 0)] := by
      rw [Nat.mul_one, List.drop_eq_getElem_cons (by simp; omega)]
      simp [List.getD_eq_getElem?_getD, show i < ch.length by omega]
    rw [e]
    exact kl_b8 d _
theorem kl_sig (d : Nat) (r g : Int) (hr : (Leaf.int r).ok) (hg : (Leaf.int g).ok) : ∃ l, (Tryd.prog).keyLits (d + 2) 25 [.int .i64 r, .int .i64 g] = some l := by
  have h1 : (Tryd.prog).cellsOf 3 = 1 := by kernel_rfl
  have h2 : (Tryd.prog).cellsOf 25 = 2 := by kernel_rfl
  unfold Program.keyLits
  simp only [Tryd.underlying25, h2]
  rw [if_pos ⟨rfl, by kernel_rfl⟩]
  simp only [List.mapM_cons, List.mapM_nil, h1, List.drop_zero, List.take_succ_cons, List.take_zero, List.drop_succ_cons, kl_int d r hr, kl_int d g hg]
  exact ⟨_, rfl⟩
theorem Ack.lits (a : Ack) (ha : a.ch.length = 32) (hi : a.ints) : ∃ l, (Tryd.prog).keyLits 4 27 a.cells = some l := by
  have h1 : (Tryd.prog).cellsOf 3 = 1 := by kernel_rfl
  have h2 : (Tryd.prog).cellsOf 25 = 2 := by kernel_rfl
  have h3 : (Tryd.prog).cellsOf 23 = 32 := by kernel_rfl
  have h4 : (Tryd.prog).cellsOf 27 = 38 := by kernel_rfl
  obtain ⟨lc, hc⟩ := kl_ch 1 a.ch ha
  obtain ⟨lg, hg⟩ := kl_sig 1 a.r a.g hi.2.2.2.2.1 hi.2.2.2.2.2
  have e1 : List.take 32 (List.drop 4 a.cells) = a.ch.map B8 := by
    show List.take 32 (a.ch.map B8 ++ [.int .i64 a.r, .int .i64 a.g]) = _
    rw [List.take_append_of_le_length (by simp [ha]), List.take_of_length_le (by simp [ha])]
  have e2 : List.take 2 (List.drop 36 a.cells) = [.int .i64 a.r, .int .i64 a.g] := by
    show List.take 2 (List.drop 32 (a.ch.map B8 ++ [.int .i64 a.r, .int .i64 a.g])) = _
    rw [List.drop_append_of_le_length (by simp [ha]), List.drop_of_length_le (by simp [ha])]
    rfl
  have f0 : List.take 1 (List.drop 0 a.cells) = [.int .i64 a.f] := rfl
  have f1 : List.take 1 (List.drop 1 a.cells) = [.int .i64 a.d] := rfl
  have f2 : List.take 1 (List.drop 2 a.cells) = [.int .i64 a.s] := rfl
  have f3 : List.take 1 (List.drop 3 a.cells) = [.int .i64 a.u] := rfl
  unfold Program.keyLits
  simp only [Tryd.underlying27, h4, a.cells_length ha]
  rw [if_pos ⟨trivial, by kernel_rfl⟩]
  simp only [List.mapM_cons, List.mapM_nil, h1, h2, h3, e1, e2, f0, f1, f2, f3, hc, hg, kl_int _ _ hi.1, kl_int _ _ hi.2.1, kl_int _ _ hi.2.2.1, kl_int _ _ hi.2.2.2.1]
  exact ⟨_, rfl⟩
theorem B8_inj {a b : List UInt8} (h : a.map B8 = b.map B8) : a = b := by
  refine List.map_inj_right ?_ |>.1 h
  intro x y e
  simp only [B8, Value.int.injEq, true_and] at e
  exact UInt8.toNat_inj.1 (by omega)
theorem Ack.cells_inj {a b : Ack} (ha : a.ch.length = 32) (hb : b.ch.length = 32) (h : a.cells = b.cells) : a = b := by
  obtain ⟨f, d, s, u, c, r, g⟩ := a
  obtain ⟨f', d', s', u', c', r', g'⟩ := b
  simp only [Ack.cells, List.cons.injEq, Value.int.injEq, true_and] at h
  obtain ⟨rfl, rfl, rfl, rfl, h⟩ := h
  obtain ⟨h1, h2⟩ := List.append_inj h (by simp only [List.length_map]; exact ha.trans hb.symm)
  cases B8_inj h1
  simp only [List.cons.injEq, Value.int.injEq, true_and, and_true] at h2
  obtain ⟨rfl, rfl⟩ := h2
  rfl
instance : DecidableEq Ack := fun a b => by
  obtain ⟨f, d, s, u, c, r, g⟩ := a
  obtain ⟨f', d', s', u', c', r', g'⟩ := b
  rw [Ack.mk.injEq]
  infer_instance
/-- Two acknowledgements are compared. -/
theorem ack_eq (a b : Ack) (ha : a.ch.length = 32) (hb : b.ch.length = 32) (hia : a.ints) (hib : b.ints) (w : World) :
    (Op.equalIn 10000 27 (.agg a.cells.toArray) (.agg b.cells.toArray)).run Tryd.prog w = .ok (decide (a = b)) w := by
  obtain ⟨la, hla⟩ := a.lits ha hia
  obtain ⟨lb, hlb⟩ := b.lits hb hib
  have h4 : (Tryd.prog).cellsOf 27 = 38 := by kernel_rfl
  have fm : ∀ x : Ack, x.ch.length = 32 → (Value.agg x.cells.toArray).formed Tryd.prog 27 = true := by
    intro x hx
    unfold Value.formed
    simp [Tryd.underlying27, h4, x.cells_length hx]
  obtain ⟨r, hr, hiff⟩ := run_equalIn_deep (P := Tryd.prog) 9996 4 27 (by kernel_rfl) w 4 4 (.agg a.cells.toArray) (.agg b.cells.toArray) la lb (fm a ha) (fm b hb) hla hlb
  suffices hd : r = decide (a = b) by rw [← hd]; exact hr
  have ht : (Tryd.prog).tiled 4 27 = true := by kernel_rfl
  rw [Bool.eq_iff_iff, hiff, decide_eq_true_eq]
  constructor
  · rintro rfl
    exact Ack.cells_inj ha hb ((cells_of_lits 4 _ ht 4 _ _ hla).trans (cells_of_lits 4 _ ht 4 _ _ hlb).symm)
  · rintro rfl
    rw [hla] at hlb
    exact Option.some.inj hlb
theorem guard_ack : (Tryd.prog).eqGuardType (Tryd.prog).depth 27 = false := by kernel_rfl
theorem exec_eql_ack {o : Oper} {a : Act} (w : World) (x y : Operand) (t : TypeId) (ho : o.op = .binOp .eql 27 x y t)
    (p q : Ack) (hx : a.eval x = .agg p.cells.toArray) (hy : a.eval y = .agg q.cells.toArray) (hp : p.ch.length = 32) (hq : q.ch.length = 32) (hip : p.ints) (hiq : q.ints) :
    (execOp a.eval o).run Tryd.prog w = .ok (.value (.bool (decide (p = q)))) w := by
  simp [execOp, ho, hx, hy, run_eqGuard_agg w _ _ _ _ _ _ guard_ack, run_eql_struct, ack_eq p q hp hq hip hiq]
theorem exec_neq_ack {o : Oper} {a : Act} (w : World) (x y : Operand) (t : TypeId) (ho : o.op = .binOp .neq 27 x y t)
    (p q : Ack) (hx : a.eval x = .agg p.cells.toArray) (hy : a.eval y = .agg q.cells.toArray) (hp : p.ch.length = 32) (hq : q.ch.length = 32) (hip : p.ints) (hiq : q.ints) :
    (execOp a.eval o).run Tryd.prog w = .ok (.value (.bool (!decide (p = q)))) w := by
  simp [execOp, ho, hx, hy, run_eqGuard_agg w _ _ _ _ _ _ guard_ack, run_neq_struct, ack_eq p q hp hq hip hiq]
theorem wl_neq_ack {ops : Array Oper} {rest : List Oper} {o : Oper} {a : Act} {w : World} {Q : Exit → Act → World → Prop} (hw : Region.wanted o (yielded ops a.tmps) = true) (x y : Operand) (t : TypeId) (ho : o.op = .binOp .neq 27 x y t)
    (p q : Ack) (hx : a.eval x = .agg p.cells.toArray) (hy : a.eval y = .agg q.cells.toArray) (hp : p.ch.length = 32) (hq : q.ch.length = 32) (hip : p.ints) (hiq : q.ints)
    (h : wpList Tryd.prog ops Q rest (a.put o.dst (.bool (!decide (p = q)))) w) : wpList Tryd.prog ops Q (o :: rest) a w :=
  wpList_step fun K hK => by
    rw [if_pos hw]
    unfold Oper.wp
    rw [exec_neq_ack w x y t ho p q hx hy hp hq hip hiq]
    exact hK _ _ h
/-- At an operation, behind whatever guard holds. -/
theorem wl_eql_ack {ops : Array Oper} {rest : List Oper} {o : Oper} {a : Act} {w : World} {Q : Exit → Act → World → Prop} (hw : Region.wanted o (yielded ops a.tmps) = true) (x y : Operand) (t : TypeId) (ho : o.op = .binOp .eql 27 x y t)
    (p q : Ack) (hx : a.eval x = .agg p.cells.toArray) (hy : a.eval y = .agg q.cells.toArray) (hp : p.ch.length = 32) (hq : q.ch.length = 32) (hip : p.ints) (hiq : q.ints)
    (h : wpList Tryd.prog ops Q rest (a.put o.dst (.bool (decide (p = q)))) w) : wpList Tryd.prog ops Q (o :: rest) a w :=
  wpList_step fun K hK => by
    rw [if_pos hw]
    unfold Oper.wp
    rw [exec_eql_ack w x y t ho p q hx hy hp hq hip hiq]
    exact hK _ _ h
end Go.Proofs.YtjibmhmaoegcnaaDoor
namespace Go.Proofs.YtjibmhmaoegcnaaDoor
open Go.RowKit Go.Shelf
set_option linter.unusedVariables false
theorem decD_list (ls : List Leaf) (h : ∀ x ∈ ls, x.ok) (hl : ls.length ≤ 1000) : decD (encF ls) = some (.list (ls.map Leaf.tree)) := by
  have e := valD_list 15 ls [] h hl
  rw [List.append_nil] at e
  unfold decD
  rw [e]
theorem ackOf_leaves (a : Ack) (ha : a.ch.length = 32) : ackOf ((a.leaves [a.r, a.g]).map Leaf.tree) = a := by
  have e : ackOf ((a.leaves [a.r, a.g]).map Leaf.tree) = ⟨a.f, a.d, a.s, a.u, chOf a.ch, a.r, a.g⟩ := rfl
  rw [e, chOf_id _ ha]
theorem two_ok (a : Ack) (hi : a.ints) : ∀ x ∈ [a.r, a.g], (Leaf.int x).ok := by
  intro x hx
  simp only [List.mem_cons, List.not_mem_nil, or_false] at hx
  rcases hx with rfl | rfl
  · exact hi.2.2.2.2.1
  · exact hi.2.2.2.2.2
/-- Decode undoes Encode. -/
theorem ackDecV_enc (a : Ack) (ha : a.ch.length = 32) (hi : a.ints) (hf : a.formed = true) : ackDecV a.enc = (a, 0) := by
  have e : decD a.enc = some (.list ((a.leaves [a.r, a.g]).map Leaf.tree)) := decD_list _ (leaves_ok a _ ha hi (two_ok a hi)) (by simp [Ack.leaves])
  unfold ackDecV
  rw [e]
  simp only [ackOf_leaves a ha]
  rw [if_pos (by rfl), if_pos ⟨hf, trivial⟩]
/-- Where Decode accepts, the bytes are the encoding of what it answers; else it answers nothing. -/
theorem ackDecV_back (l : List UInt8) : ((ackDecV l).2 = 0 ∧ (ackDecV l).1.formed = true ∧ (ackDecV l).1.enc = l) ∨ ((ackDecV l).2 ≠ 0 ∧ (ackDecV l).1 = zeroAck) := by
  unfold ackDecV
  split
  · exact .inr ⟨by decide, rfl⟩
  · split
    · split
      · rename_i h; exact .inl ⟨rfl, h.1, h.2⟩
      · exact .inr ⟨by decide, rfl⟩
    · exact .inr ⟨by decide, rfl⟩
  · exact .inr ⟨by decide, rfl⟩
theorem zeroAck_ch : zeroAck.ch.length = 32 := rfl
theorem zeroAck_ints : zeroAck.ints := by unfold Ack.ints Leaf.ok zeroAck; decide
theorem ackOf_ch (ts : List Tree) : (ackOf ts).ch.length = 32 := chOf_length _
theorem ackDecV_ch (l : List UInt8) : (ackDecV l).1.ch.length = 32 := by
  unfold ackDecV
  split
  · rfl
  · split
    · split
      · exact ackOf_ch _
      · rfl
    · rfl
  · rfl
theorem ackDecV_ints (l : List UInt8) : (ackDecV l).1.ints := by
  unfold ackDecV
  split
  · exact zeroAck_ints
  · rename_i ts he
    split
    · split
      · exact ackOf_ints (decD_fits he)
      · exact zeroAck_ints
    · exact zeroAck_ints
  · exact zeroAck_ints
theorem ackDecV_int (n : Int) (h : (Leaf.int n).ok) : ackDecV (Leaf.int n).enc = (zeroAck, 330) := by
  have e := valD_leaf 16 (.int n) [] h
  rw [List.append_nil] at e
  have e2 : decD (Leaf.int n).enc = some (.int n) := by
    unfold decD
    rw [e]
    rfl
  unfold ackDecV
  rw [e2]
theorem powP_ok (a k : Nat) : (Leaf.int (powP a k : Nat)).ok := by
  have := powP_lt a k
  unfold Leaf.ok; omega
theorem signS_ok (x : Nat) (l : List UInt8) : (Leaf.int (signS x l : Nat)).ok := by
  have : signS x l < 2305843009213688669 := Nat.mod_lt _ (by decide)
  unfold Leaf.ok; omega
/-- What Make makes of a good key. -/
theorem makeV_good (f d s u : Int) (ch : List UInt8) (x : Int) (hf : (Ack.mk f d s u ch 0 0).formed = true) (hx : ValidK x) :
    ∃ r g, makeV f d s u ch x = (⟨f, d, s, u, ch, r, g⟩, 0) ∧ (Leaf.int r).ok ∧ (Leaf.int g).ok ∧ ackCheckV ⟨f, d, s, u, ch, r, g⟩ (powP 4 x.toNat : Nat) = 0 := by
  refine ⟨_, _, by unfold makeV; rw [if_pos hf, if_pos hx], powP_ok _ _, signS_ok _ _, ?_⟩
  have e : ∀ r g, (Ack.mk f d s u ch r g).msg = (Ack.mk f d s u ch 0 0).msg := fun _ _ => rfl
  have e2 : ∀ r g, (Ack.mk f d s u ch r g).formed = (Ack.mk f d s u ch 0 0).formed := fun _ _ => rfl
  unfold ackCheckV
  rw [e2, hf, if_pos rfl, e]
  have hx' : x.toNat < 2305843009213688669 := by have := hx.1; have := hx.2; omega
  rw [sign_verifies x.toNat _ hx', if_pos rfl]
theorem verifyB_zero (pub : Int) (l : List UInt8) : verifyB pub l 0 0 = false := by
  have h : ¬ InG 0 := fun h => by have := h.1; omega
  have h2 : ¬ (InG pub ∧ InG 0 ∧ InF 0) := fun k => h k.2.1
  unfold verifyB
  rw [decide_eq_false h2, Bool.false_and]
theorem check_zero (pub : Int) : ackCheckV zeroAck pub = 222 := by
  have hf : zeroAck.formed = true := by decide
  have e : verifyB pub zeroAck.msg zeroAck.r zeroAck.g = false := verifyB_zero _ _
  unfold ackCheckV
  rw [hf, if_pos rfl, e]
  rfl
theorem expV_six : (expV 4 6).1 = (powP 4 6 : Nat) := by
  have e : (6 : Int) = ((6 : Nat) : Int) := rfl
  rw [e, expV_4 6 (by decide)]
theorem least_sane (a : Ack) (pub : Int) (hf : a.f = 1) (hd : a.d = 2) (hs : a.s = 3) (hu : a.u = 4) (hc : ackCheckV a pub = 0) : leastV 1 3 [a] [⟨2, 0, pub⟩] = 4 := by
  have e : grp 1 3 [a] 2 = [a] := by
    unfold grp
    rw [List.filter_cons_of_pos (by rw [decide_eq_true_eq]; exact ⟨hf, hs, hd⟩)]
    rfl
  have h1 := leastV_one 1 3 [a] ⟨2, 0, pub⟩
  rw [List.nil_append] at h1
  rw [h1]
  show uptoV pub (grp 1 3 [a] 2) = 4
  rw [e]
  have h2 := uptoV_snoc pub [] a
  rw [List.nil_append] at h2
  rw [h2, if_pos ⟨by rw [hu]; show (0 : Int) < 4; decide, hc⟩, hu]
theorem least_sane2 (a : Ack) (pub : Int) (hf : a.f = 1) (hd : a.d = 2) (hs : a.s = 3) (hu : a.u = 4) (hc : ackCheckV a pub = 0) : leastV 1 3 [a] [⟨2, 0, pub⟩, ⟨3, 0, 4⟩] = 0 := by
  have e : grp 1 3 [a] 3 = [] := by
    unfold grp
    rw [List.filter_cons_of_neg (by rw [decide_eq_true_eq]; intro h; have := h.2.2; omega)]
    rfl
  have h1 := leastV_snoc 1 3 [a] [⟨2, 0, pub⟩] ⟨3, 0, 4⟩ (by simp)
  rw [show ([⟨2, 0, pub⟩, ⟨3, 0, 4⟩] : List Mem) = [⟨2, 0, pub⟩] ++ [⟨3, 0, 4⟩] from rfl, h1, least_sane a pub hf hd hs hu hc]
  show (if uptoV 4 (grp 1 3 [a] 3) < 4 then uptoV 4 (grp 1 3 [a] 3) else 4) = 0
  rw [e]
  rfl
theorem least_none (fo st : Int) (l : List Ack) : leastV fo st l [] = 0 := rfl
theorem wrong_sane (e : Ent) (hk : e.k = 4) (hg : e.gone = true) : wrongV 0 0 [] [] [e] = [1] := by
  have h := goneL_snoc [] e
  rw [List.nil_append, if_pos hg] at h
  unfold wrongV
  rw [h]
  show wrongG 0 ([] ++ [((([] : List Ent).length : Int) + 1, e)]) = [1]
  rw [wrongG_snoc, if_pos (.inr (by show (0 : Int) < (0 : Int) + 1; decide))]
  rfl
end Go.Proofs.YtjibmhmaoegcnaaDoor
namespace Go.Proofs.YtjibmhmaoegcnaaDoor
open Go.RowKit Go.Shelf
set_option linter.unusedVariables false
set_option maxHeartbeats 1000000 in
theorem num_any (n : Int) (w : World) : Calls Tryd.prog 16 #[.int .i64 n] w fun e w' => e = .returned (.agg #[.int .i64 1, .int .i64 n, .string ⟨#[]⟩, .slice none 0 0]) ∧ Gr w none w' := by
  go_enter Tryd.func16, Tryd.ntmps16
  go_wp2_with fail
  have hB := Blk.new w 51 [.int .i64 1, .int .i64 n, .string ⟨#[]⟩, .slice none 0 0]
  exact bodyPost_ret (results_cell_row rfl _ _ w.heap.size 51 _ (0, 0) _ rfl hB Tryd.underlying51 rfl (by kernel_rfl)) rfl ⟨rfl, (Gr.refl _ _).alloc _⟩
set_option maxHeartbeats 1000000 in
theorem same_any (p q : Option Addr) (b d c e' : Nat) (xs ys : List Int) (w : World) (hxl : xs.length ≤ 100000) (hyl : ys.length ≤ 100000)
    (hp : xs = [] ∨ (p = some ⟨b, 0, none⟩ ∧ At w b 0 (xs.map I64))) (hq : ys = [] ∨ (q = some ⟨d, 0, none⟩ ∧ At w d 0 (ys.map I64))) :
    Calls Tryd.prog 23 #[.slice p xs.length c, .slice q ys.length e'] w fun e w' => e = .returned (.bool (decide (xs = ys))) ∧ Gr w none w' := by
  by_cases hl : xs.length = ys.length
  · go_enter Tryd.func23, Tryd.ntmps23
    have hl' : (xs.length : Int) = (ys.length : Int) := by omega
    go_wp2_with fail
    go_loopw [5] (fun i wr => ∃ m : Nat, m ≤ xs.length ∧ i = .int .i64 m ∧ xs.take m = ys.take m ∧ Gr w none wr) (fun i _ => (xs.length - intOf i).toNat)
    case atStart => exact ⟨0, by omega, rfl, rfl, Gr.refl _ _⟩
    case round =>
      obtain ⟨m, hm, rfl, ht, hG⟩ := hrel
      by_cases hlt : m < xs.length
      · have hlt2 : m < ys.length := by omega
        obtain ⟨rfl, hA⟩ := hp.resolve_left (fun h => by subst h; simp at hlt)
        obtain ⟨rfl, hB⟩ := hq.resolve_left (fun h => by subst h; simp at hlt2)
        have c0 := (hA.grown hG (by simp)).get m (by simpa using hlt)
        have c1 := (hB.grown hG (by simp)).get m (by simpa using hlt2)
        rw [Nat.zero_add, List.getElem_map] at c0 c1
        have ht1 : xs.take (m + 1) = xs.take m ++ [xs[m]] := (List.take_append_getElem hlt).symm
        have ht2 : ys.take (m + 1) = ys.take m ++ [ys[m]] := (List.take_append_getElem hlt2).symm
        have HT := Lib.hid ht
        have HT1 := Lib.hid ht1
        have HT2 := Lib.hid ht2
        clear ht ht1 ht2
        have hne : ∀ h : xs[m] ≠ ys[m], xs ≠ ys := fun h e => h (by subst e; rfl)
        generalize xs[m] = x at *
        generalize ys[m] = y at *
        unfold I64 at c0 c1
        have b1 : (m : Int) < (xs.length : Int) := by omega
        have b2 : (m : Int) < (ys.length : Int) := by omega
        have b0 : (0 : Int) ≤ (m : Int) := by omega
        go_upto_region 6 with fail
        refine wp_region_held_drew (S := fun w' => w'.cell? ⟨b, m, none⟩ = some (.int .i64 x) ∧ w'.cell? ⟨d, m, none⟩ = some (.int .i64 y)) (by kernel_rfl) ⟨c0, c1⟩ (fun hS => ?_)
        refine wpAnyH_take (i := 0) (oi := { dst := some 17, op := _, type := _, pos := _, after := _, guard := _ }) (v := ?v0_45) rfl (by kernel_rfl) (by kernel_rfl) (by kernel_rfl) (fun _ _ _ h => h) (Or.inl ⟨by rfl, ?h0_45⟩) hS ?r0_45
        case h0_45 => intro w0 hw0; obtain ⟨s0, s1⟩ := hw0; go_simp; try with_reducible rfl
        simp only [Act.put, List.setIfInBounds_toArray, List.set_cons_zero, List.set_cons_succ]
        refine wpAnyH_take (i := 1) (oi := { dst := some 18, op := _, type := _, pos := _, after := _, guard := _ }) (v := ?v1_48) rfl (by kernel_rfl) (by kernel_rfl) (by kernel_rfl) (fun _ _ _ h => h) (Or.inl ⟨by rfl, ?h1_48⟩) hS ?r1_48
        case h1_48 => intro w0 hw0; obtain ⟨s0, s1⟩ := hw0; go_simp; try with_reducible rfl
        simp only [Act.put, List.setIfInBounds_toArray, List.set_cons_zero, List.set_cons_succ]
        refine wpAnyH_take (i := 2) (oi := { dst := some 19, op := _, type := _, pos := _, after := _, guard := _ }) (v := ?v2_51) rfl (by kernel_rfl) (by kernel_rfl) (by kernel_rfl) (fun _ _ _ h => h) (Or.inl ⟨by rfl, ?h2_51⟩) hS ?r2_51
        case h2_51 => intro w0 hw0; obtain ⟨s0, s1⟩ := hw0; go_simp; try with_reducible rfl
        simp only [Act.put, List.setIfInBounds_toArray, List.set_cons_zero, List.set_cons_succ]
        refine wpAnyH_take (i := 3) (oi := { dst := some 20, op := _, type := _, pos := _, after := _, guard := _ }) (v := ?v3_54) rfl (by kernel_rfl) (by kernel_rfl) (by kernel_rfl) (fun _ _ _ h => h) (Or.inl ⟨by rfl, ?h3_54⟩) hS ?r3_54
        case h3_54 => intro w0 hw0; obtain ⟨s0, s1⟩ := hw0; go_simp; try with_reducible rfl
        simp only [Act.put, List.setIfInBounds_toArray, List.set_cons_zero, List.set_cons_succ]
        refine wpAnyH_take (i := 4) (oi := { dst := some 21, op := _, type := _, pos := _, after := _, guard := _ }) (v := ?v4_57) rfl (by kernel_rfl) (by kernel_rfl) (by kernel_rfl) (fun _ _ _ h => h) (Or.inl ⟨by rfl, ?h4_57⟩) hS ?r4_57
        case h4_57 => intro w0 hw0; obtain ⟨s0, s1⟩ := hw0; go_simp; try with_reducible rfl
        simp only [Act.put, List.setIfInBounds_toArray, List.set_cons_zero, List.set_cons_succ]
        refine wpAnyH_take (i := 5) (oi := { dst := some 22, op := _, type := _, pos := _, after := _, guard := _ }) (v := ?v5_60) rfl (by kernel_rfl) (by kernel_rfl) (by kernel_rfl) (fun _ _ _ h => h) (Or.inl ⟨by rfl, ?h5_60⟩) hS ?r5_60
        case h5_60 => intro w0 hw0; obtain ⟨s0, s1⟩ := hw0; go_simp; try with_reducible rfl
        simp only [Act.put, List.setIfInBounds_toArray, List.set_cons_zero, List.set_cons_succ]
        refine wpAnyH_take (i := 6) (oi := { dst := some 23, op := _, type := _, pos := _, after := _, guard := _ }) (v := ?v6_63) rfl (by kernel_rfl) (by kernel_rfl) (by kernel_rfl) (fun _ _ _ h => h) (Or.inl ⟨by rfl, ?h6_63⟩) hS ?r6_63
        case h6_63 => intro w0 hw0; obtain ⟨s0, s1⟩ := hw0; go_simp; try with_reducible rfl
        simp only [Act.put, List.setIfInBounds_toArray, List.set_cons_zero, List.set_cons_succ]
        refine wpAnyH_take (i := 7) (oi := { dst := some 24, op := _, type := _, pos := _, after := _, guard := _ }) (v := ?v7_66) rfl (by kernel_rfl) (by kernel_rfl) (by kernel_rfl) (fun _ _ _ h => h) (Or.inl ⟨by rfl, ?h7_66⟩) hS ?r7_66
        case h7_66 => intro w0 hw0; obtain ⟨s0, s1⟩ := hw0; go_simp; try with_reducible rfl
        simp only [Act.put, List.setIfInBounds_toArray, List.set_cons_zero, List.set_cons_succ]
        refine wpAnyH_take (i := 8) (oi := { dst := some 25, op := _, type := _, pos := _, after := _, guard := _ }) (v := ?v8_69) rfl (by kernel_rfl) (by kernel_rfl) (by kernel_rfl) (fun _ _ _ h => h) (Or.inl ⟨by rfl, ?h8_69⟩) hS ?r8_69
        case h8_69 => intro w0 hw0; obtain ⟨s0, s1⟩ := hw0; go_simp; try with_reducible rfl
        simp only [Act.put, List.setIfInBounds_toArray, List.set_cons_zero, List.set_cons_succ]
        refine wpAnyH_done (by kernel_rfl) ?_ _
        by_cases hxy : x = y
        · subst hxy
          go_wp2_with fail
          go_roundw
          case rel => exact ⟨m + 1, by omega, int_eq (by omega), by rw [HT1.out, HT2.out, HT.out], hG.drew⟩
          case measure => simp [intOf]; omega
        · have hb : (x != y) = true := by simpa using hxy
          go_wp2_with fail
          go_ret
          exact ⟨by first | rfl | (rw [decide_eq_false (hne hxy)]; rfl), hG.drew⟩
      · obtain rfl : m = xs.length := by omega
        have he : xs = ys := by rw [List.take_length, hl, List.take_length] at ht; exact ht
        go_wp2
        go_ret
        exact ⟨by rw [decide_eq_true he]; rfl, hG⟩
  · have hl' : ¬ (xs.length : Int) = (ys.length : Int) := by omega
    have he : ¬ xs = ys := fun e => hl (by rw [e])
    go_enter Tryd.func23, Tryd.ntmps23
    go_wp2_with fail
    go_ret
    exact ⟨by rw [decide_eq_false he]; rfl, Gr.refl _ _⟩
end Go.Proofs.YtjibmhmaoegcnaaDoor
