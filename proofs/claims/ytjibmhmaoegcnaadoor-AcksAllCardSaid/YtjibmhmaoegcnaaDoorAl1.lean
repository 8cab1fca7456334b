/- Parts of a proof, joined by program: AllV, Few, Build, All. -/
import Derived.Test.YtjibmhmaoegcnaaDoorK12
import Derived.Maps.AppendAt
import Derived.Deep.DeepCutAuto
namespace Go.Proofs.YtjibmhmaoegcnaaDoor
open Go.RowKit Go.Shelf
set_option linter.unusedVariables false
/-- The acknowledgement that the i-th member makes of a number, and of nothing. -/
def ackA (fo st : Int) (i : Nat) (n : UInt8) : Ack := (makeV fo (7 * i) st n.toNat (n :: List.replicate 31 0) ((i : Int) + 3)).1
def ackZ (fo st : Int) (i : Nat) : Ack := (makeV fo (7 * i) st 0 (List.replicate 32 0) ((i : Int) + 3)).1
def pubOf (i : Nat) : Int := (powP 4 (i + 3) : Nat)
def memI (i : Nat) : Mem := ⟨7 * i, 0, pubOf i⟩
def memsOf (ns : List UInt8) : List Mem := ns.zipIdx.map fun p => memI p.2
def acksOf (fo st : Int) (ns : List UInt8) : List Ack := ns.zipIdx.flatMap fun p => [ackA fo st p.2 p.1, ackZ fo st p.2]
def minOf (ns : List UInt8) : Int := ns.foldl (fun m n => min m (n.toNat : Int)) 256
theorem memsOf_snoc (ns : List UInt8) (n : UInt8) : memsOf (ns ++ [n]) = memsOf ns ++ [memI ns.length] := by
  unfold memsOf; rw [List.zipIdx_append]; simp
theorem acksOf_snoc (fo st : Int) (ns : List UInt8) (n : UInt8) : acksOf fo st (ns ++ [n]) = acksOf fo st ns ++ [ackA fo st ns.length n, ackZ fo st ns.length] := by
  unfold acksOf; rw [List.zipIdx_append]; simp
theorem minOf_snoc (ns : List UInt8) (n : UInt8) : minOf (ns ++ [n]) = min (minOf ns) (n.toNat : Int) := by
  unfold minOf; rw [List.foldl_append]; rfl
theorem memsOf_length (ns : List UInt8) : (memsOf ns).length = ns.length := by simp [memsOf]
theorem acksOf_length (fo st : Int) (ns : List UInt8) : (acksOf fo st ns).length = 2 * ns.length := by
  unfold acksOf
  rw [List.length_flatMap]
  have : ∀ (l : List (UInt8 × Nat)), (l.map fun p => ([ackA fo st p.2 p.1, ackZ fo st p.2] : List Ack).length).sum = 2 * l.length := by
    intro l
    induction l with
    | nil => rfl
    | cons a l ih => rw [List.map_cons, List.sum_cons, ih, List.length_cons]; simp only [List.length_cons, List.length_nil]; omega
  rw [this]; simp
structure IsAck (a : Ack) (f d s u : Int) (pub : Int) : Prop where
  f : a.f = f
  d : a.d = d
  s : a.s = s
  u : a.u = u
  ch : a.ch.length = 32
  ints : a.ints
  check : ackCheckV a pub = 0
theorem make_is {f d s u : Int} {ch : List UInt8} {x : Int} (hc : ch.length = 32) (hf : 0 ≤ f ∧ f < 16) (hd : 0 ≤ d ∧ d < 512) (hs : 0 ≤ s ∧ s < 4) (hu : 0 ≤ u ∧ u ≤ 65536) (hx : 1 ≤ x ∧ x < 1000) :
    IsAck (makeV f d s u ch x).1 f d s u (powP 4 x.toNat : Nat) ∧ (makeV f d s u ch x).2 = 0 := by
  have hfm : (Ack.mk f d s u ch 0 0).formed = true := by
    simp [Ack.formed, validB]
    omega
  obtain ⟨r, g, e, h1, h2, h3⟩ := makeV_good f d s u ch x hfm ⟨hx.1, by omega⟩
  rw [e]
  have ok : ∀ {n : Int}, 0 ≤ n ∧ n ≤ 65536 → (Leaf.int n).ok := fun h => by unfold Leaf.ok; omega
  exact ⟨⟨rfl, rfl, rfl, rfl, hc, ⟨ok (n := f) (by omega), ok (n := d) (by omega), ok (n := s) (by omega), ok (n := u) (by omega), h1, h2⟩, h3⟩, rfl⟩
theorem ackA_is {fo st : Int} {i : Nat} (n : UInt8) (hf : 0 ≤ fo ∧ fo < 16) (hs : 0 ≤ st ∧ st < 4) (hi : i < 5) :
    IsAck (ackA fo st i n) fo (7 * i) st n.toNat (pubOf i) ∧ (makeV fo (7 * i) st n.toNat (n :: List.replicate 31 0) ((i : Int) + 3)).2 = 0 := by
  have h := make_is (f := fo) (d := 7 * i) (s := st) (u := n.toNat) (ch := n :: List.replicate 31 0) (x := (i : Int) + 3) (by simp) hf (by omega) hs (by have := n.toNat_lt; omega) (by omega)
  rw [show ((i : Int) + 3).toNat = i + 3 by omega] at h
  exact h
theorem ackZ_is {fo st : Int} {i : Nat} (hf : 0 ≤ fo ∧ fo < 16) (hs : 0 ≤ st ∧ st < 4) (hi : i < 5) :
    IsAck (ackZ fo st i) fo (7 * i) st 0 (pubOf i) ∧ (makeV fo (7 * i) st 0 (List.replicate 32 0) ((i : Int) + 3)).2 = 0 := by
  have h := make_is (f := fo) (d := 7 * i) (s := st) (u := 0) (ch := List.replicate 32 0) (x := (i : Int) + 3) (by simp) hf (by omega) hs (by omega) (by omega)
  rw [show ((i : Int) + 3).toNat = i + 3 by omega] at h
  exact h
theorem mem_acks {fo st : Int} {ns : List UInt8} {a : Ack} (h : a ∈ acksOf fo st ns) : ∃ i n, ns[i]? = some n ∧ (a = ackA fo st i n ∨ a = ackZ fo st i) := by
  unfold acksOf at h
  obtain ⟨⟨n, i⟩, hp, ha⟩ := List.mem_flatMap.1 h
  have := List.mem_zipIdx_iff_getElem?.1 hp
  simp only [List.mem_cons, List.not_mem_nil, or_false] at ha
  exact ⟨i, n, this, ha⟩
theorem acks_mem {fo st : Int} {ns : List UInt8} {i : Nat} {n : UInt8} (h : ns[i]? = some n) : ackA fo st i n ∈ acksOf fo st ns := by
  unfold acksOf
  exact List.mem_flatMap.2 ⟨(n, i), List.mem_zipIdx_iff_getElem?.2 h, by simp⟩
theorem mem_mems {ns : List UInt8} {m : Mem} (h : m ∈ memsOf ns) : ∃ i n, ns[i]? = some n ∧ m = memI i := by
  unfold memsOf at h
  obtain ⟨⟨n, i⟩, hp, rfl⟩ := List.mem_map.1 h
  exact ⟨i, n, List.mem_zipIdx_iff_getElem?.1 hp, rfl⟩
theorem mems_mem {ns : List UInt8} {i : Nat} {n : UInt8} (h : ns[i]? = some n) : memI i ∈ memsOf ns := by
  unfold memsOf
  exact List.mem_map.2 ⟨(n, i), List.mem_zipIdx_iff_getElem?.2 h, rfl⟩
theorem idx_lt {ns : List UInt8} {i : Nat} {n : UInt8} (h : ns[i]? = some n) : i < ns.length := (List.getElem?_eq_some_iff.1 h).1
theorem acksOf_ok {fo st : Int} {ns : List UInt8} (hf : 0 ≤ fo ∧ fo < 16) (hs : 0 ≤ st ∧ st < 4) (hl : ns.length ≤ 5) : ∀ a ∈ acksOf fo st ns, a.ch.length = 32 ∧ a.ints := by
  intro a ha
  obtain ⟨i, n, hn, rfl | rfl⟩ := mem_acks ha
  · have := ackA_is (i := i) n hf hs (by have := idx_lt hn; omega); exact ⟨this.1.ch, this.1.ints⟩
  · have := ackZ_is (i := i) hf hs (by have := idx_lt hn; omega); exact ⟨this.1.ch, this.1.ints⟩
theorem memsOf_ok {ns : List UInt8} (hl : ns.length ≤ 5) : ∀ m ∈ memsOf ns, i64ok m.d := by
  intro m hm
  obtain ⟨i, n, hn, rfl⟩ := mem_mems hm
  have := idx_lt hn
  show i64ok (7 * (i : Int))
  unfold i64ok; omega
/-- The number of the i-th member. -/
theorem upV_all {fo st : Int} {ns : List UInt8} {i : Nat} {n : UInt8} (hf : 0 ≤ fo ∧ fo < 16) (hs : 0 ≤ st ∧ st < 4) (hl : ns.length ≤ 5) (hn : ns[i]? = some n) : upV fo st (acksOf fo st ns) (memI i) = n.toNat := by
  have hi := idx_lt hn
  refine Int.le_antisymm ((upV_le _ _ _ _ _).2 ⟨by omega, fun a ha _ _ h3 _ => ?_⟩) ?_
  · obtain ⟨j, k, hk, rfl | rfl⟩ := mem_acks ha
    · have hj := idx_lt hk
      have h := (ackA_is (fo := fo) (st := st) (i := j) k hf hs (by omega)).1
      rw [h.d] at h3
      have h3' : 7 * (j : Int) = 7 * (i : Int) := h3
      obtain rfl : j = i := by omega
      rw [hn] at hk
      cases hk
      rw [h.u]; omega
    · have hj := idx_lt hk
      have h := (ackZ_is (fo := fo) (st := st) (i := j) hf hs (by omega)).1
      rw [h.u]; omega
  · have h := (ackA_is (fo := fo) (st := st) (i := i) n hf hs (by omega)).1
    have := ((upV_le fo st _ (acksOf fo st ns) (memI i)).1 (Int.le_refl _)).2 _ (acks_mem hn) h.f h.s h.d h.check
    rw [h.u] at this
    exact this
theorem le_minOf (n : Int) : ∀ (ns : List UInt8) (k : Int), n ≤ ns.foldl (fun m n => min m (n.toNat : Int)) k ↔ n ≤ k ∧ ∀ x ∈ ns, n ≤ (x.toNat : Int)
  | [], k => by simp
  | a :: ns, k => by
    rw [List.foldl_cons, le_minOf n ns]
    simp only [List.mem_cons, forall_eq_or_imp, Int.le_min]
    constructor
    · rintro ⟨⟨h1, h2⟩, h3⟩; exact ⟨h1, h2, h3⟩
    · rintro ⟨h1, h2, h3⟩; exact ⟨⟨h1, h2⟩, h3⟩
theorem mems_ne {ns : List UInt8} (h : ns ≠ []) : memsOf ns ≠ [] := fun e => h (List.eq_nil_of_length_eq_zero (by rw [← memsOf_length ns, e]; rfl))
theorem least_all {fo st : Int} {ns : List UInt8} (hf : 0 ≤ fo ∧ fo < 16) (hs : 0 ≤ st ∧ st < 4) (hl : ns.length ≤ 5) (h0 : ns ≠ []) : leastV fo st (acksOf fo st ns) (memsOf ns) = minOf ns := by
  refine Int.le_antisymm ((le_minOf _ _ _).2 ⟨?_, fun x hx => ?_⟩) ((le_least _ _ _ _ _ (mems_ne h0)).2 fun m hm => ?_)
  · obtain ⟨x, t, rfl⟩ := List.exists_cons_of_ne_nil h0
    have hn : (x :: t)[0]? = some x := rfl
    have := (le_least fo st _ (acksOf fo st (x :: t)) _ (mems_ne h0)).1 (Int.le_refl _) _ (mems_mem hn)
    rw [upV_all hf hs hl hn] at this
    have := x.toNat_lt
    omega
  · obtain ⟨i, hi, rfl⟩ := List.getElem_of_mem hx
    have hn : ns[i]? = some ns[i] := List.getElem?_eq_getElem hi
    have := (le_least fo st _ (acksOf fo st ns) _ (mems_ne h0)).1 (Int.le_refl _) _ (mems_mem hn)
    rwa [upV_all hf hs hl hn] at this
  · obtain ⟨i, n, hn, rfl⟩ := mem_mems hm
    rw [upV_all hf hs hl hn]
    exact ((le_minOf (minOf ns) ns 256).1 (Int.le_refl _)).2 n (List.mem_of_getElem? hn)
/-- Of another store or folder nobody has acknowledged anything. -/
theorem least_other {fo st fo' st' : Int} {ns : List UInt8} (hf : 0 ≤ fo ∧ fo < 16) (hs : 0 ≤ st ∧ st < 4) (hl : ns.length ≤ 5) (h0 : ns ≠ []) (hne : fo' ≠ fo ∨ st' ≠ st) : leastV fo' st' (acksOf fo st ns) (memsOf ns) = 0 := by
  refine Int.le_antisymm ?_ (least_zero _ _ _ _)
  obtain ⟨x, t, rfl⟩ := List.exists_cons_of_ne_nil h0
  have hn : (x :: t)[0]? = some x := rfl
  refine Int.le_trans ((le_least fo' st' _ (acksOf fo st (x :: t)) _ (mems_ne h0)).1 (Int.le_refl _) _ (mems_mem hn)) ((upV_le _ _ _ _ _).2 ⟨Int.le_refl _, fun a ha h1 h2 _ _ => ?_⟩)
  exfalso
  obtain ⟨j, k, hk, rfl | rfl⟩ := mem_acks ha
  · have h := (ackA_is (fo := fo) (st := st) (i := j) k hf hs (by have := idx_lt hk; omega)).1
    rw [h.f] at h1; rw [h.s] at h2
    rcases hne with e | e
    · exact e h1.symm
    · exact e h2.symm
  · have h := (ackZ_is (fo := fo) (st := st) (i := j) hf hs (by have := idx_lt hk; omega)).1
    rw [h.f] at h1; rw [h.s] at h2
    rcases hne with e | e
    · exact e h1.symm
    · exact e h2.symm
/-- The entries. -/
def entG (g : Bool) : Ent := ⟨4, (List.replicate 32 (0 : UInt8)).map B8 ++ [.slice none 0 0], g⟩
theorem entG_fit (g : Bool) : (entG g).fit := ⟨rfl, by
  intro v hv
  simp only [entG, List.mem_append, List.mem_map, List.mem_singleton] at hv
  rcases hv with ⟨_, _, rfl⟩ | rfl <;> rfl⟩
def wantOf (least : Int) (gs : List Bool) : List Int := wrongG least (goneL (gs.map entG))
theorem wantOf_snoc (least : Int) (gs : List Bool) (g : Bool) : wantOf least (gs ++ [g]) = if g = true ∧ least < (gs.length : Int) + 1 then wantOf least gs ++ [(gs.length : Int) + 1] else wantOf least gs := by
  unfold wantOf
  rw [List.map_append, List.map_singleton, goneL_snoc]
  cases g with
  | false => rfl
  | true =>
    rw [if_pos (by rfl), wrongG_snoc, List.length_map]
    by_cases h : least < (gs.length : Int) + 1
    · rw [if_pos (.inr h), if_pos ⟨rfl, h⟩]
    · rw [if_neg (fun k => k.elim (fun e => e rfl) h), if_neg (fun k => h k.2)]
theorem wantOf_length (least : Int) (gs : List Bool) : (wantOf least gs).length ≤ gs.length := by
  unfold wantOf wrongG
  refine Nat.le_trans (List.length_filterMap_le _ _) (Nat.le_trans (goneL_le _) (by simp))
end Go.Proofs.YtjibmhmaoegcnaaDoor
namespace Go.Proofs.YtjibmhmaoegcnaaDoor
open Go.RowKit Go.Shelf
set_option linter.unusedVariables false
set_option maxHeartbeats 1000000 in
theorem few_any (p q r : Option Addr) (x y z c d e' : Nat) (w : World) :
    Calls Tryd.prog 13 #[.slice p x c, .slice q y d, .slice r z e'] w fun e w' => e = .returned (.bool (decide (x ≤ 6 ∧ y ≤ 12 ∧ z ≤ 60))) ∧ Gr w none w' := by
  by_cases hx : x ≤ 6
  · have hx' : (x : Int) ≤ 6 := by omega
    by_cases hy : y ≤ 12
    · have hy' : (y : Int) ≤ 12 := by omega
      by_cases hz : z ≤ 60
      · have hz' : (z : Int) ≤ 60 := by omega
        have H := Lib.hid (decide_eq_true (show x ≤ 6 ∧ y ≤ 12 ∧ z ≤ 60 from ⟨hx, hy, hz⟩))
        go_enter Tryd.func13, Tryd.ntmps13
        go_wp2_with fail
        go_ret
        exact ⟨by first | rfl | (rw [H.out]; rfl), Gr.refl _ _⟩
      · have hz' : ¬ (z : Int) ≤ 60 := by omega
        have H := Lib.hid (decide_eq_false (show ¬ (x ≤ 6 ∧ y ≤ 12 ∧ z ≤ 60) from fun h => hz h.2.2))
        go_enter Tryd.func13, Tryd.ntmps13
        go_wp2_with fail
        go_ret
        exact ⟨by first | rfl | (rw [H.out]; rfl), Gr.refl _ _⟩
    · have hy' : ¬ (y : Int) ≤ 12 := by omega
      have H := Lib.hid (decide_eq_false (show ¬ (x ≤ 6 ∧ y ≤ 12 ∧ z ≤ 60) from fun h => hy h.2.1))
      go_enter Tryd.func13, Tryd.ntmps13
      go_wp2_with fail
      go_ret
      exact ⟨by first | rfl | (rw [H.out]; rfl), Gr.refl _ _⟩
  · have hx' : ¬ (x : Int) ≤ 6 := by omega
    have H := Lib.hid (decide_eq_false (show ¬ (x ≤ 6 ∧ y ≤ 12 ∧ z ≤ 60) from fun h => hx h.1))
    go_enter Tryd.func13, Tryd.ntmps13
    go_wp2_with fail
    go_ret
    exact ⟨by first | rfl | (rw [H.out]; rfl), Gr.refl _ _⟩
/-- What is appended: nothing (nil), or a row that stands in memory. -/
def Src (w : World) (u : Value) (m size : Nat) (news : List Value) : Prop :=
  (u = .slice none 0 0 ∧ m = 0 ∧ news = []) ∨ ∃ ad c, u = .slice (some ad) m c ∧ news.length = m * size ∧ ∀ j x, news[j]? = some x → w.cell? (ad.add j) = some x
theorem Src.at {w : World} {b o m c size : Nat} {news : List Value} (hl : news.length = m * size) (h : At w b o news) : Src w (.slice (some ⟨b, o, none⟩) m c) m size news :=
  .inr ⟨_, _, rfl, hl, fun j x hj => by
    obtain ⟨hl, e⟩ := List.getElem?_eq_some_iff.1 hj
    rw [Addr.add_lit, ← e]; exact h j hl⟩
theorem wp_app {P : Program} {o : Oper} {a : Act} {w : World} {K : Act → World → Prop} {Q : Exit → Act → World → Prop} (s x : Operand) (t : TypeId) (ho : o.op = .call { callee := .builtin .append, args := #[s, x], argTypes := #[t, t] })
    (base : Nat) (e : TypeId) (i : TypeInfo) (z : Value) (size bytes : Nat) (ht : P.underlying t = some (.slice e)) (hi : P.info? e = some i) (hz : i.zero = some z) (hsize : i.size = size) (hby : i.bytes = bytes) (hzs : z.cells.size = size) (hsz : 0 < size)
    (v : Value) (n : Nat) (xs : List Value) (hs : a.eval s = v) (hown : w.ownsRow base e size v n xs) (u : Value) (m : Nat) (news : List Value) (hx : a.eval x = u) (hu : Src w u m size news) (h1 : ∀ u ∈ news, u.oneCell' = true)
    (h63 : n + m ≤ maxLen) (hbytes : (n + m) * bytes ≤ 140737488355328) (hbase : base ≤ w.heap.size)
    (h : ∀ v' w', w'.ownsRow base e size v' (n + m) (xs ++ news) → Gr w v.ownBlock w' → (v'.ownBlock = v.ownBlock ∨ v'.ownBlock = some w.heap.size) → K (a.put o.dst v') w') : Oper.wp P o a w K Q := by
  obtain ⟨v', w', hr, h2, h3, h4⟩ : ∃ v' w', (Builtin.append_ #[t, t] o.type #[v, u]).run P w = .ok v' w' ∧ w'.ownsRow base e size v' (n + m) (xs ++ news) ∧ Gr w v.ownBlock w' ∧ (v'.ownBlock = v.ownBlock ∨ v'.ownBlock = some w.heap.size) := by
    rcases hu with ⟨rfl, rfl, rfl⟩ | ⟨ad, c, rfl, hl, hat⟩
    · exact ⟨v, w, run_append_owned_none (P := P) w base t o.type e i size ht hi v n xs hown, by simpa using hown, Gr.refl _ _, .inl rfl⟩
    · obtain ⟨v', w', hr, h2, h3, _, h5⟩ := run_append_own_at (P := P) w base t o.type e i z size bytes ht hi hz hsize hby hzs hsz v n xs hown ad m c news hl hat h1 h63 hbytes hbase
      exact ⟨v', w', hr, h2, h3, h5⟩
  unfold Oper.wp execOp
  simp [ho, resolve, invoke, builtin, hs, hx, hr, Result.andThen]
  exact h v' w' h2 h3 h4
theorem step_app {P : Program} {ops : Array Oper} {o : Oper} {a : Act} {w : World} {K : Act → World → Prop} {Q : Exit → Act → World → Prop} {E : Prop} (hgd : o.guard = none) (s x : Operand) (t : TypeId) (ho : o.op = .call { callee := .builtin .append, args := #[s, x], argTypes := #[t, t] })
    (base : Nat) (e : TypeId) (i : TypeInfo) (z : Value) (size bytes : Nat) (ht : P.underlying t = some (.slice e)) (hi : P.info? e = some i) (hz : i.zero = some z) (hsize : i.size = size) (hby : i.bytes = bytes) (hzs : z.cells.size = size) (hsz : 0 < size)
    (v : Value) (n : Nat) (xs : List Value) (hs : a.eval s = v) (hown : w.ownsRow base e size v n xs) (u : Value) (m : Nat) (news : List Value) (hx : a.eval x = u) (hu : Src w u m size news) (h1 : ∀ u ∈ news, u.oneCell' = true)
    (h63 : n + m ≤ maxLen) (hbytes : (n + m) * bytes ≤ 140737488355328) (hbase : base ≤ w.heap.size)
    (h : ∀ v' w', w'.ownsRow base e size v' (n + m) (xs ++ news) → Gr w v.ownBlock w' → (v'.ownBlock = v.ownBlock ∨ v'.ownBlock = some w.heap.size) → K (a.put o.dst v') w') : if Region.wanted o (yielded ops a.tmps) = true then Oper.wp P o a w K Q else E := by
  rw [if_pos (by simp [Region.wanted, hgd])]
  exact wp_app s x t ho base e i z size bytes ht hi hz hsize hby hzs hsz v n xs hs hown u m news hx hu h1 h63 hbytes hbase h
theorem wl_app {P : Program} {ops : Array Oper} {rest : List Oper} {o : Oper} {a : Act} {w : World} {Q : Exit → Act → World → Prop} (hgd : o.guard = none) (s x : Operand) (t : TypeId) (ho : o.op = .call { callee := .builtin .append, args := #[s, x], argTypes := #[t, t] })
    (base : Nat) (e : TypeId) (i : TypeInfo) (z : Value) (size bytes : Nat) (ht : P.underlying t = some (.slice e)) (hi : P.info? e = some i) (hz : i.zero = some z) (hsize : i.size = size) (hby : i.bytes = bytes) (hzs : z.cells.size = size) (hsz : 0 < size)
    (v : Value) (n : Nat) (xs : List Value) (hs : a.eval s = v) (hown : w.ownsRow base e size v n xs) (u : Value) (m : Nat) (news : List Value) (hx : a.eval x = u) (hu : Src w u m size news) (h1 : ∀ u ∈ news, u.oneCell' = true)
    (h63 : n + m ≤ maxLen) (hbytes : (n + m) * bytes ≤ 140737488355328) (hbase : base ≤ w.heap.size)
    (h : ∀ v' w', w'.ownsRow base e size v' (n + m) (xs ++ news) → Gr w v.ownBlock w' → (v'.ownBlock = v.ownBlock ∨ v'.ownBlock = some w.heap.size) → wpList P ops Q rest (a.put o.dst v') w') : wpList P ops Q (o :: rest) a w :=
  wpList_plain hgd fun K hK => wp_app s x t ho base e i z size bytes ht hi hz hsize hby hzs hsz v n xs hs hown u m news hx hu h1 h63 hbytes hbase fun v' w' h2 h3 h4 => hK _ _ (h v' w' h2 h3 h4)
/-- A slice of nothing, newly made. -/
theorem own_empty (W : World) (T : TypeId) (s B : Nat) (hB : B ≤ W.heap.size) (o : Obj) (ho : o = .cells #[] T (0, 0)) : (W.alloc o).ownsRow B T s (.slice (some ⟨W.heap.size, 0, none⟩) 0 0) 0 [] := by
  subst ho
  refine ⟨by simp, .inr ⟨W.heap.size, 0, #[], rfl, hB, ?_, Nat.le_refl _, by unfold maxLen; omega, by simp, by simp⟩⟩
  show (W.heap.push _)[W.heap.size]? = _
  simp
/-- A row of things that the call owns. -/
abbrev OwnM (w : World) (B : Nat) (v : Value) (g : List Mem) : Prop := w.ownsRow B 47 3 v g.length (g.flatMap Mem.cells)
theorem flat_mems (g : List Mem) : (g.flatMap Mem.cells).length = g.length * 3 := by
  induction g with
  | nil => rfl
  | cons a g ih => rw [List.flatMap_cons, List.length_append, ih, List.length_cons]; show 3 + _ = _; omega
theorem Mem.cells_one (m : Mem) : ∀ v ∈ m.cells, v.oneCell' = true := by
  intro v hv
  simp only [Mem.cells, List.mem_cons, List.not_mem_nil, or_false] at hv
  rcases hv with rfl | rfl | rfl <;> rfl
theorem ones_flat {α : Type} (f : α → List Value) (l : List α) (h : ∀ a ∈ l, ∀ v ∈ f a, v.oneCell' = true) : ∀ v ∈ l.flatMap f, v.oneCell' = true := by
  intro v hv
  obtain ⟨a, ha, hv⟩ := List.mem_flatMap.1 hv
  exact h a ha v hv
theorem own_rows {w : World} {B s : Nat} {e : TypeId} {v : Value} {α : Type} {f : α → List Value} {g : List α} (hown : w.ownsRow B e s v g.length (g.flatMap f)) :
    ∃ p b c, v = .slice p g.length c ∧ (g = [] ∨ (p = some ⟨b, 0, none⟩ ∧ B ≤ b ∧ b < w.heap.size ∧ At w b 0 (g.flatMap f))) := by
  have h0 := hown
  obtain ⟨_, ⟨rfl, hn⟩ | ⟨b, cap, cur, rfl, hg, hb, _⟩⟩ := hown
  · have : g = [] := List.eq_nil_of_length_eq_zero hn
    subst this
    exact ⟨none, 0, 0, rfl, .inl rfl⟩
  · refine ⟨_, b, cap, rfl, .inr ⟨rfl, hg, (Array.getElem?_eq_some_iff.1 hb).1, fun i hi => ?_⟩⟩
    have := World.ownsRow.cells h0 (g := b) rfl i _ (List.getElem?_eq_getElem hi)
    rw [Addr.add_lit] at this
    exact this
theorem own_snoc {w : World} {B s : Nat} {e : TypeId} {v : Value} {α : Type} {f : α → List Value} {g l : List α} (h : w.ownsRow B e s v (g.length + l.length) (g.flatMap f ++ l.flatMap f)) : w.ownsRow B e s v (g ++ l).length ((g ++ l).flatMap f) := by
  rw [List.length_append, List.flatMap_append]; exact h
/-- Rows of things are appended to a row that the call owns. -/
theorem step_rows {α : Type} (f : α → List Value) {ops : Array Oper} {o : Oper} {a : Act} {W : World} {K : Act → World → Prop} {Q : Exit → Act → World → Prop} {E : Prop} (hgd : o.guard = none) (s x : Operand) (t e : TypeId) (ho : o.op = .call { callee := .builtin .append, args := #[s, x], argTypes := #[t, t] })
    (i : TypeInfo) (z : Value) (size bytes : Nat) (ht : (Tryd.prog).underlying t = some (.slice e)) (hi : (Tryd.prog).info? e = some i) (hz : i.zero = some z) (hsize : i.size = size) (hby : i.bytes = bytes) (hzs : z.cells.size = size) (hsz : 0 < size) (hb1 : bytes ≤ 1000)
    (B : Nat) (v : Value) (g l : List α) (hs : a.eval s = v) (hown : W.ownsRow B e size v g.length (g.flatMap f)) (u : Value) (hx : a.eval x = u) (hu : Src W u l.length size (l.flatMap f)) (h1 : ∀ a ∈ l, ∀ v ∈ f a, v.oneCell' = true) (hlen : g.length + l.length ≤ 100000) (hB : B ≤ W.heap.size)
    (h : ∀ p c w1, w1.ownsRow B e size (.slice p (g ++ l).length c) (g ++ l).length ((g ++ l).flatMap f) → Gr W v.ownBlock w1 → K (a.put o.dst (.slice p (g ++ l).length c)) w1) :
    if Region.wanted o (yielded ops a.tmps) = true then Oper.wp Tryd.prog o a W K Q else E := by
  refine step_app hgd s x t ho B e i z size bytes ht hi hz hsize hby hzs hsz v g.length _ hs hown u l.length _ hx hu (ones_flat f l h1) (by unfold maxLen; omega) (Nat.le_trans (Nat.mul_le_mul hlen hb1) (by omega)) hB ?_
  intro v' w' hown' hg _
  have h2 := own_snoc hown'
  obtain ⟨p, b, c, rfl, _⟩ := own_rows h2
  exact h p c w' h2 hg
theorem wl_rows {α : Type} (f : α → List Value) {ops : Array Oper} {rest : List Oper} {o : Oper} {a : Act} {W : World} {Q : Exit → Act → World → Prop} (hgd : o.guard = none) (s x : Operand) (t e : TypeId) (ho : o.op = .call { callee := .builtin .append, args := #[s, x], argTypes := #[t, t] })
    (i : TypeInfo) (z : Value) (size bytes : Nat) (ht : (Tryd.prog).underlying t = some (.slice e)) (hi : (Tryd.prog).info? e = some i) (hz : i.zero = some z) (hsize : i.size = size) (hby : i.bytes = bytes) (hzs : z.cells.size = size) (hsz : 0 < size) (hb1 : bytes ≤ 1000)
    (B : Nat) (v : Value) (g l : List α) (hs : a.eval s = v) (hown : W.ownsRow B e size v g.length (g.flatMap f)) (u : Value) (hx : a.eval x = u) (hu : Src W u l.length size (l.flatMap f)) (h1 : ∀ a ∈ l, ∀ v ∈ f a, v.oneCell' = true) (hlen : g.length + l.length ≤ 100000) (hB : B ≤ W.heap.size)
    (h : ∀ p c w1, w1.ownsRow B e size (.slice p (g ++ l).length c) (g ++ l).length ((g ++ l).flatMap f) → Gr W v.ownBlock w1 → wpList Tryd.prog ops Q rest (a.put o.dst (.slice p (g ++ l).length c)) w1) :
    wpList Tryd.prog ops Q (o :: rest) a W := by
  refine wl_app hgd s x t ho B e i z size bytes ht hi hz hsize hby hzs hsz v g.length _ hs hown u l.length _ hx hu (ones_flat f l h1) (by unfold maxLen; omega) (Nat.le_trans (Nat.mul_le_mul hlen hb1) (by omega)) hB ?_
  intro v' w' hown' hg _
  have h2 := own_snoc hown'
  obtain ⟨p, b, c, rfl, _⟩ := own_rows h2
  exact h p c w' h2 hg
end Go.Proofs.YtjibmhmaoegcnaaDoor
namespace Go.Proofs.YtjibmhmaoegcnaaDoor
open Go.RowKit Go.Shelf
set_option linter.unusedVariables false
set_option maxRecDepth 100000 in
theorem wl_build_ack {ops : Array Oper} {rest : List Oper} {o : Oper} {a : Act} {w : World} {Q : Exit → Act → World → Prop} (hw : Region.wanted o (yielded ops a.tmps) = true) (x : Operand) (ho : o.op = .buildSlice 38 1 #[(0, x)])
    (k : Ack) (hk : k.ch.length = 32) (hx : a.eval x = .agg k.cells.toArray) (h : wpList Tryd.prog ops Q rest (a.put o.dst (.slice (some ⟨w.heap.size, 0, none⟩) 1 1)) (w.alloc (.cells k.cells.toArray 27))) : wpList Tryd.prog ops Q (o :: rest) a w :=
  wpList_step fun K hK => by
    rw [if_pos hw]
    have h38 := k.cells_length hk
    have hbw := build_whole k hk
    have hc := hK _ _ h
    clear h hK
    unfold Oper.wp execOp
    simp only [ho, List.map_toArray, List.map_cons, List.map_nil, hx]
    simp [go_sem, h38, hbw, Instr.buildSlice]
    exact hc
set_option maxRecDepth 100000 in
theorem wl_build_mem {ops : Array Oper} {rest : List Oper} {o : Oper} {a : Act} {w : World} {Q : Exit → Act → World → Prop} (hw : Region.wanted o (yielded ops a.tmps) = true) (x : Operand) (ho : o.op = .buildSlice 37 1 #[(0, x)])
    (k : Mem) (hx : a.eval x = .agg k.cells.toArray) (h : wpList Tryd.prog ops Q rest (a.put o.dst (.slice (some ⟨w.heap.size, 0, none⟩) 1 1)) (w.alloc (.cells k.cells.toArray 47))) : wpList Tryd.prog ops Q (o :: rest) a w :=
  wpList_step fun K hK => by
    rw [if_pos hw]
    have h38 : k.cells.length = 3 := rfl
    have hbw : List.foldl (fun (cs : Array Value) (x : Value × Nat) => cs.setIfInBounds x.snd x.fst) #[.int .i64 0, .int .i64 0, .int .i64 0] k.cells.zipIdx = k.cells.toArray := rfl
    have hc := hK _ _ h
    clear h hK
    unfold Oper.wp execOp
    simp only [ho, List.map_toArray, List.map_cons, List.map_nil, hx]
    simp [go_sem, h38, hbw, Instr.buildSlice]
    exact hc
theorem own_len {w : World} {B s n k m : Nat} {e : TypeId} {p : Option Addr} {c : Nat} {xs : List Value} (h : w.ownsRow B e s (.slice p n c) n xs) (hk : n = k) (hm : n = m) : w.ownsRow B e s (.slice p k c) m xs := by subst hk; subst hm; exact h
theorem wl_rows_n {α : Type} (f : α → List Value) {ops : Array Oper} {rest : List Oper} {o : Oper} {a : Act} {W : World} {Q : Exit → Act → World → Prop} (hgd : o.guard = none) (s x : Operand) (t e : TypeId) (ho : o.op = .call { callee := .builtin .append, args := #[s, x], argTypes := #[t, t] })
    (i : TypeInfo) (z : Value) (size bytes : Nat) (ht : (Tryd.prog).underlying t = some (.slice e)) (hi : (Tryd.prog).info? e = some i) (hz : i.zero = some z) (hsize : i.size = size) (hby : i.bytes = bytes) (hzs : z.cells.size = size) (hsz : 0 < size) (hb1 : bytes ≤ 1000)
    (B : Nat) (v : Value) (g l : List α) (N : Nat) (hN : g.length + l.length = N) (hs : a.eval s = v) (hown : W.ownsRow B e size v g.length (g.flatMap f)) (u : Value) (hx : a.eval x = u) (hu : Src W u l.length size (l.flatMap f)) (h1 : ∀ a ∈ l, ∀ v ∈ f a, v.oneCell' = true) (hlen : N ≤ 100000) (hB : B ≤ W.heap.size)
    (h : ∀ p c w1, w1.ownsRow B e size (.slice p N c) (g ++ l).length ((g ++ l).flatMap f) → Gr W v.ownBlock w1 → wpList Tryd.prog ops Q rest (a.put o.dst (.slice p N c)) w1) :
    wpList Tryd.prog ops Q (o :: rest) a W := by
  refine wl_rows f hgd s x t e ho i z size bytes ht hi hz hsize hby hzs hsz hb1 B v g l hs hown u hx hu h1 (by omega) hB ?_
  intro p c w1 h2 h3
  have e : (g ++ l).length = N := by rw [List.length_append]; exact hN
  rw [e] at h2 ⊢
  exact h p c w1 (by rw [e]; exact h2) h3
theorem wl_rows_k {α : Type} (f : α → List Value) {ops : Array Oper} {rest : List Oper} {o : Oper} {a : Act} {W : World} {Q : Exit → Act → World → Prop} (hgd : o.guard = none) (s x : Operand) (t e : TypeId) (ho : o.op = .call { callee := .builtin .append, args := #[s, x], argTypes := #[t, t] })
    (i : TypeInfo) (z : Value) (size bytes : Nat) (ht : (Tryd.prog).underlying t = some (.slice e)) (hi : (Tryd.prog).info? e = some i) (hz : i.zero = some z) (hsize : i.size = size) (hby : i.bytes = bytes) (hzs : z.cells.size = size) (hsz : 0 < size) (hb1 : bytes ≤ 1000)
    (B : Nat) (v : Value) (g l : List α) (N : Nat) (hN : g.length + l.length = N) (hs : a.eval s = v) (hown : W.ownsRow B e size v g.length (g.flatMap f)) (u : Value) (hx : a.eval x = u) (hu : Src W u l.length size (l.flatMap f)) (h1 : ∀ a ∈ l, ∀ v ∈ f a, v.oneCell' = true) (hlen : N ≤ 100000) (hB : B ≤ W.heap.size)
    (h : ∀ p c w1, w1.ownsRow B e size (.slice p N c) (g ++ l).length ((g ++ l).flatMap f) → Gr W v.ownBlock w1 → ((Value.slice p N c).ownBlock = v.ownBlock ∨ (Value.slice p N c).ownBlock = some W.heap.size) → wpList Tryd.prog ops Q rest (a.put o.dst (.slice p N c)) w1) :
    wpList Tryd.prog ops Q (o :: rest) a W := by
  refine wl_app hgd s x t ho B e i z size bytes ht hi hz hsize hby hzs hsz v g.length _ hs hown u l.length _ hx hu (ones_flat f l h1) (by unfold maxLen; omega) (Nat.le_trans (Nat.mul_le_mul (by omega : g.length + l.length ≤ 100000) hb1) (by omega)) hB ?_
  intro v' w' hown' hg hat
  have h2 := own_snoc hown'
  obtain ⟨p, b, c, rfl, _⟩ := own_rows h2
  have e : (g ++ l).length = N := by rw [List.length_append]; exact hN
  rw [e] at h2 hat ⊢
  exact h p c w' (by rw [e]; exact h2) hg hat
theorem own_new {w w' : World} {B s n : Nat} {e : TypeId} {v : Value} {xs : List Value} (h : w.ownsRow B e s v n xs) (hg : Gr w none w') : w'.ownsRow B e s v n xs := World.ownsRow.kept h hg (by cases v.ownBlock <;> simp)
theorem own_apart {w w' : World} {B' s s' n n' : Nat} {e e' : TypeId} {v v' : Value} {xs xs' : List Value} (h : w'.ownsRow w.heap.size e s v n xs) (h' : w.ownsRow B' e' s' v' n' xs') : v.ownBlock = none ∨ v.ownBlock ≠ v'.ownBlock := by
  cases hq : v.ownBlock with
  | none => exact .inl rfl
  | some y => exact .inr fun e => by have := own_ge h y hq; have := own_lt h' y e.symm; omega
theorem least_own {W : World} {B1 B2 n1 c1 n2 c2 : Nat} {p1 p2 : Option Addr} (fo st : Int) (ms : List Mem) (l : List Ack) (hK : Laid W) (hl : ∀ a ∈ l, a.ch.length = 32 ∧ a.ints) (hll : l.length ≤ 1000) (hml : ms.length ≤ 1000) (hmd : ∀ m ∈ ms, i64ok m.d)
    (h1 : OwnM W B1 (.slice p1 n1 c1) ms) (h2 : OwnA W B2 (.slice p2 n2 c2) l) :
    Calls Tryd.prog 19 #[.slice p1 n1 c1, .int .i64 fo, .int .i64 st, .slice p2 n2 c2] W fun e w' => e = .returned (.int .i64 (leastV fo st l ms)) ∧ Gr W none w' := by
  obtain ⟨q1, b1, d1, e1, k1⟩ := own_rows h1
  obtain ⟨q2, b2, d2, e2, k2⟩ := own_rows h2
  rw [e1, e2]
  exact least_at q1 q2 b1 0 b2 0 d1 d2 fo st ms l W hK hl hll hml hmd (k2.imp_right fun k => ⟨k.1, k.2.2⟩) (k1.imp_right fun k => ⟨k.1, k.2.2⟩)
theorem mem_range {w : World} {b : Nat} {ms : List Mem} (h : At w b 0 (ms.flatMap Mem.cells)) (i : Nat) (hi : i < ms.length) : w.rangeAt b (i * 3) (ms[i]).cells := by
  intro j v hv
  have hj : j < 3 := (List.getElem?_eq_some_iff.1 hv).1
  have := mem_cell h i hi j hj
  rw [Nat.zero_add] at this
  rw [this]; exact hv
def zeros38 : List Value := [.int .i64 0, .int .i64 0, .int .i64 0, .int .i64 0, .int .u8 0, .int .u8 0, .int .u8 0, .int .u8 0, .int .u8 0, .int .u8 0, .int .u8 0, .int .u8 0, .int .u8 0, .int .u8 0, .int .u8 0, .int .u8 0, .int .u8 0, .int .u8 0, .int .u8 0, .int .u8 0, .int .u8 0, .int .u8 0, .int .u8 0, .int .u8 0, .int .u8 0, .int .u8 0, .int .u8 0, .int .u8 0, .int .u8 0, .int .u8 0, .int .u8 0, .int .u8 0, .int .u8 0, .int .u8 0, .int .u8 0, .int .u8 0, .int .i64 0, .int .i64 0]
set_option maxRecDepth 100000 in
theorem wl_build_ack2 {ops : Array Oper} {rest : List Oper} {o : Oper} {a : Act} {w : World} {Q : Exit → Act → World → Prop} (hw : Region.wanted o (yielded ops a.tmps) = true) (x y : Operand) (ho : o.op = .buildSlice 38 2 #[(0, x), (1, y)])
    (k l : Ack) (hk : k.ch.length = 32) (hl : l.ch.length = 32) (hx : a.eval x = .agg k.cells.toArray) (hy : a.eval y = .agg l.cells.toArray) (h : wpList Tryd.prog ops Q rest (a.put o.dst (.slice (some ⟨w.heap.size, 0, none⟩) 2 2)) (w.alloc (.cells (k.cells ++ l.cells).toArray 27))) : wpList Tryd.prog ops Q (o :: rest) a w :=
  wpList_step fun K hK => by
    rw [if_pos hw]
    have h38 := k.cells_length hk
    have h39 := l.cells_length hl
    have hF1 : List.foldl (fun (cs : Array Value) (x : Value × Nat) => cs.setIfInBounds x.snd x.fst) #[.int .i64 0, .int .i64 0, .int .i64 0, .int .i64 0, .int .u8 0, .int .u8 0, .int .u8 0, .int .u8 0, .int .u8 0, .int .u8 0, .int .u8 0, .int .u8 0, .int .u8 0, .int .u8 0, .int .u8 0, .int .u8 0, .int .u8 0, .int .u8 0, .int .u8 0, .int .u8 0, .int .u8 0, .int .u8 0, .int .u8 0, .int .u8 0, .int .u8 0, .int .u8 0, .int .u8 0, .int .u8 0, .int .u8 0, .int .u8 0, .int .u8 0, .int .u8 0, .int .u8 0, .int .u8 0, .int .u8 0, .int .u8 0, .int .i64 0, .int .i64 0, .int .i64 0, .int .i64 0, .int .i64 0, .int .i64 0, .int .u8 0, .int .u8 0, .int .u8 0, .int .u8 0, .int .u8 0, .int .u8 0, .int .u8 0, .int .u8 0, .int .u8 0, .int .u8 0, .int .u8 0, .int .u8 0, .int .u8 0, .int .u8 0, .int .u8 0, .int .u8 0, .int .u8 0, .int .u8 0, .int .u8 0, .int .u8 0, .int .u8 0, .int .u8 0, .int .u8 0, .int .u8 0, .int .u8 0, .int .u8 0, .int .u8 0, .int .u8 0, .int .u8 0, .int .u8 0, .int .u8 0, .int .u8 0, .int .i64 0, .int .i64 0] k.cells.zipIdx = (k.cells ++ zeros38).toArray := by
      have h := foldl_set 0 k.cells 0 [] zeros38 zeros38 (by rw [h38]; rfl) rfl
      simp only [Nat.zero_add, List.nil_append] at h
      exact h
    have hF2 : List.foldl (fun (cs : Array Value) (x : Value × Nat) => cs.setIfInBounds (38 + x.snd) x.fst) (k.cells ++ zeros38).toArray l.cells.zipIdx = (k.cells ++ l.cells).toArray := by
      have h := foldl_set 38 l.cells 0 k.cells zeros38 [] (by rw [h39]; rfl) (by rw [h38])
      simp only [List.append_nil] at h
      exact h
    have hz38 : zeros38.length = 38 := rfl
    have hc := hK _ _ h
    clear h hK
    unfold Oper.wp execOp
    simp only [ho, List.map_toArray, List.map_cons, List.map_nil, hx, hy]
    simp [go_sem, h38, h39, hF1, hF2, hz38, Instr.buildSlice]
    exact hc
end Go.Proofs.YtjibmhmaoegcnaaDoor
namespace Go.Proofs.YtjibmhmaoegcnaaDoor
open Go.RowKit Go.Shelf
set_option linter.unusedVariables false
set_option linter.unusedSimpArgs false
theorem i64_and15 (n : Int) : bits .and .i64 n 15 = n % 16 := by
  have h127 : (BitVec.ofInt 64 15).toNat = 2 ^ 4 - 1 := by decide
  have key : (BitVec.ofInt 64 n &&& BitVec.ofInt 64 15).toNat = (n % ((2 ^ 64 : Nat) : Int)).toNat % 2 ^ 4 := by
    rw [BitVec.toNat_and, BitVec.toNat_ofInt, h127, Nat.and_two_pow_sub_one_eq_mod]
  show IntKind.i64.wrap ((BitVec.ofInt 64 n &&& BitVec.ofInt 64 15).toNat : Nat) = n % 16
  rw [key, IntKind.wrap_i64]
  omega
theorem i64_and3 (n : Int) : bits .and .i64 n 3 = n % 4 := by
  have h127 : (BitVec.ofInt 64 3).toNat = 2 ^ 2 - 1 := by decide
  have key : (BitVec.ofInt 64 n &&& BitVec.ofInt 64 3).toNat = (n % ((2 ^ 64 : Nat) : Int)).toNat % 2 ^ 2 := by
    rw [BitVec.toNat_and, BitVec.toNat_ofInt, h127, Nat.and_two_pow_sub_one_eq_mod]
  show IntKind.i64.wrap ((BitVec.ofInt 64 n &&& BitVec.ofInt 64 3).toNat : Nat) = n % 4
  rw [key, IntKind.wrap_i64]
  omega
theorem run_B8_i64 {P : Program} {w : World} {c : UInt8} {S D : TypeId} (hS : P.underlying S = some (.int .u8)) (hD : P.underlying D = some (.int .i64)) : (convert S D (B8 c)).run P w = .ok (.int .i64 (c.toNat : Int)) w := by
  unfold B8
  simp [convert, run_underlying hS, run_underlying hD, Conv.intToInt, go_sem]
  rw [IntKind.wrap_i64]; have := c.toNat_lt; omega
/-- What the loop over the members has made: k members, 2 k acknowledgements. -/
structure AI (fo st : Int) (k : Nat) (ns : List UInt8) (w : World) (v10 v11 : Value) (wr : World) : Prop where
  gr : Gr w none wr
  mem : ∃ p c, v10 = .slice p k c ∧ OwnM wr w.heap.size (.slice p k c) (memsOf ns)
  ack : ∃ p c, v11 = .slice p (2 * k) c ∧ OwnA wr w.heap.size (.slice p (2 * k) c) (acksOf fo st ns)
  apart : v10.ownBlock = none ∨ v10.ownBlock ≠ v11.ownBlock
theorem ap {v v' u : Option Nat} {S : Nat} (h : v' = v ∨ v' = some S) (k : v = none ∨ v ≠ u) (hu : ∀ b, u = some b → b < S) : u = none ∨ u ≠ v' := by
  cases hq : u with
  | none => exact .inl rfl
  | some y =>
    refine .inr fun e => ?_
    have hy := hu y hq
    rcases h with rfl | rfl
    · rcases k with k | k
      · rw [k] at e; cases e
      · exact k (by rw [hq, e])
    · cases e; omega
theorem own_by {w w' : World} {B s n : Nat} {e : TypeId} {v : Value} {xs : List Value} {row : Option Nat} (h : w.ownsRow B e s v n xs) (hg : Gr w row w') (hr : row = none ∨ row ≠ v.ownBlock) : w'.ownsRow B e s v n xs := by
  rcases hr with rfl | hr
  · exact own_new h hg
  · exact World.ownsRow.kept h hg (.inr fun e => hr e.symm)
theorem info_ent : ∃ i z, (Tryd.prog).info? 45 = some i ∧ i.zero = some z ∧ i.size = 35 ∧ i.bytes = 72 ∧ z.cells.size = 35 := by
  have h : ((Tryd.prog).info? 45).map (fun i => (i.zero.map (·.cells.size), i.size, i.bytes)) = some (some 35, 35, 72) := by kernel_rfl
  cases hq : (Tryd.prog).info? 45 with
  | none => simp [hq] at h
  | some i =>
    simp [hq] at h
    obtain ⟨⟨z, hz, hz2⟩, h1, h2⟩ := h
    exact ⟨i, z, rfl, hz, h1, h2, hz2⟩
def cI (n : Int) : List Value := [.int .i64 n]
theorem flat_ints (l : List Int) : l.flatMap cI = l.map I64 := by induction l with | nil => rfl | cons a l ih => rw [List.flatMap_cons, ih]; rfl
theorem flat_ents (g : List Ent) (h : ∀ e ∈ g, e.fit) : (g.flatMap Ent.cells).length = g.length * 35 := by
  induction g with
  | nil => rfl
  | cons a g ih => rw [List.flatMap_cons, List.length_append, ih fun x hx => h x (by simp [hx]), Ent.cells_length (h a (by simp)), List.length_cons]; omega
/-- What the loop over the entries has made: k entries; the numbers wanted. -/
structure EI (ln : Int) (k : Nat) (gs : List Bool) (w : World) (v20 v21 : Value) (wr : World) : Prop where
  gr : Gr w none wr
  ent : ∃ p c, v20 = .slice p k c ∧ wr.ownsRow w.heap.size 45 35 (.slice p k c) (gs.map entG).length ((gs.map entG).flatMap Ent.cells)
  want : ∃ p c n, v21 = .slice p n c ∧ n = (wantOf ln gs).length ∧ wr.ownsRow w.heap.size 3 1 (.slice p n c) (wantOf ln gs).length ((wantOf ln gs).flatMap cI)
  apart : v20.ownBlock = none ∨ v20.ownBlock ≠ v21.ownBlock
theorem wrong_own {W : World} {B1 B2 B3 n1 c1 n2 c2 n3 c3 : Nat} {p1 p2 p3 : Option Addr} (fo st : Int) (ms : List Mem) (l : List Ack) (es : List Ent) (hK : Laid W) (hl : ∀ a ∈ l, a.ch.length = 32 ∧ a.ints) (hll : l.length ≤ 1000) (hml : ms.length ≤ 1000) (hmd : ∀ m ∈ ms, i64ok m.d) (hes : ∀ e ∈ es, e.fit) (hel : es.length ≤ 1000)
    (h1 : OwnM W B1 (.slice p1 n1 c1) ms) (h2 : OwnA W B2 (.slice p2 n2 c2) l) (h3 : W.ownsRow B3 45 35 (.slice p3 n3 c3) es.length (es.flatMap Ent.cells)) :
    Calls Tryd.prog 14 #[.slice p1 n1 c1, .int .i64 fo, .int .i64 st, .slice p2 n2 c2, .slice p3 n3 c3] W fun e w' => ∃ v, e = .returned v ∧ OwnI w' W.heap.size v (wrongV fo st l ms es) ∧ Gr W none w' := by
  obtain ⟨q1, b1, d1, e1, k1⟩ := own_rows h1
  obtain ⟨q2, b2, d2, e2, k2⟩ := own_rows h2
  obtain ⟨q3, b3, d3, e3, k3⟩ := own_rows h3
  rw [e1, e2, e3]
  have k1' := k1.imp_right fun k => (⟨k.1, k.2.2⟩ : q1 = some ⟨b1, 0, none⟩ ∧ _)
  have k2' := k2.imp_right fun k => (⟨k.1, k.2.2⟩ : q2 = some ⟨b2, 0, none⟩ ∧ _)
  rcases k3 with rfl | ⟨rfl, _, hb, hA⟩
  · exact wrong_at q1 q2 q3 b1 0 b2 0 0 0 d1 d2 d3 fo st ms l [] W hK hl hll hml hmd k2' k1' hes hel (.inl rfl) hK.two.1 (fun i hi => by simp at hi)
  · exact wrong_at q1 q2 _ b1 0 b2 0 b3 0 d1 d2 d3 fo st ms l es W hK hl hll hml hmd k2' k1' hes hel (.inr rfl) hb hA
set_option maxHeartbeats 2000000 in
set_option maxRecDepth 100000 in
theorem all_walk (np gp : Option Addr) (nb no gb go nc gc : Nat) (fo st : Int) (ns : List UInt8) (gs : List Bool) (w : World) (hK : Laid w) (h1 : 0 < ns.length) (h5 : ns.length ≤ 5) (h60 : gs.length ≤ 60) (hfo : 0 ≤ fo ∧ fo < 16) (hst : 0 ≤ st ∧ st < 4) (fo0 st0 : Int) (hf0 : fo0 % 16 = fo) (hs0 : st0 % 4 = st)
    (hnp : ns = [] ∨ (np = some ⟨nb, no, none⟩ ∧ nb < w.heap.size ∧ At w nb no (ns.map B8))) (hgp : gs = [] ∨ (gp = some ⟨gb, go, none⟩ ∧ gb < w.heap.size ∧ At w gb go (gs.map Value.bool))) :
    Calls Tryd.prog 6 #[.slice np ns.length nc, .int .i64 fo0, .int .i64 st0, .slice gp gs.length gc] w fun e w' => e = .returned (.bool true) ∧ Gr w none w' := by
  have b1 : ((ns.length : Int) == 0) = false := by simp; intro e; rw [e] at h1; simp at h1
  have b2 : ¬ (5 : Int) < (ns.length : Int) := by omega
  have b3 : ¬ (60 : Int) < (gs.length : Int) := by omega
  have e15 := i64_and15 fo0
  have e3 := i64_and3 st0
  rw [hf0] at e15
  rw [hs0] at e3
  have hcv := fun (w : World) (c : UInt8) => @run_B8_i64 Tryd.prog w c 5 3 Tryd.underlying5 Tryd.underlying3
  obtain ⟨ia, za, ia1, ia2, ia3, ia4, ia5⟩ := info_ack
  obtain ⟨im, zm, im1, im2, im3, im4, im5⟩ := info_mem
  have hu := Tryd.underlying27
  go_enter Tryd.func6, Tryd.ntmps6
  go_upto_region 9 with (first
    | (go_at_call 8; refine (sane_any w hK).mono ?_; rintro e w1 ⟨rfl, hG1⟩))
  clear b1 b2 b3 e15 e3 hf0 hs0
  have hI0 : AI fo st 0 [] w1 (.slice none 0 0) (.slice none 0 0) w1 := ⟨Gr.refl _ _, ⟨none, 0, rfl, World.ownsRow_nil _ _ _ _⟩, ⟨none, 0, rfl, World.ownsRow_nil _ _ _ _⟩, .inl rfl⟩
  go_wp2_with fail
  go_loopw [45, 10, 11, 9] (fun i v10 v11 le wr => ∃ k : Nat, k ≤ ns.length ∧ i = .int .i64 k ∧ le = .int .i64 (minOf (ns.take k)) ∧ AI fo st k (ns.take k) w1 v10 v11 wr) (fun i _ _ _ _ => (ns.length - intOf i).toNat)
  case atStart => exact ⟨0, by omega, rfl, rfl, hI0⟩
  case round =>
    obtain ⟨k, hk, rfl, rfl, hI⟩ := hrel
    clear hI0
    by_cases hlt : k < ns.length
    · -- [dev
      obtain ⟨rfl, hnb, hnA⟩ := hnp.resolve_left (by intro e; rw [e] at hlt; simp at hlt)
      have hc := (hnA.grown (hG1.trans hI.gr) (by simp)).get k (by simpa using hlt)
      rw [List.getElem_map] at hc
      have HT := Lib.hid (show ns.take (k + 1) = ns.take k ++ [ns[k]] from (List.take_append_getElem hlt).symm)
      have hkl : (ns.take k).length = k := by simp; omega
      generalize ns[k] = n at *
      have hk5 : k < 5 := by omega
      have hP : ∀ W, Calls Tryd.prog 20 #[.int .i64 ((k : Int) + 3)] W fun e w' => e = .returned (.tuple #[.int .i64 (pubOf k), .int .i64 0]) ∧ Gr W none w' := by
        intro W
        have h := public_good (k + 3) (by omega) (by omega) W
        rw [show (((k + 3 : Nat) : Nat) : Int) = (k : Int) + 3 by omega] at h
        exact h
      obtain ⟨hAi, hA2⟩ := ackA_is (fo := fo) (st := st) (i := k) n hfo hst hk5
      obtain ⟨hZi, hZ2⟩ := ackZ_is (fo := fo) (st := st) (i := k) hfo hst hk5
      have hMA : ∀ W, Laid W → Calls Tryd.prog 21 #[.int .i64 fo, .int .i64 (7 * (k : Int)), .int .i64 st, .int .i64 n.toNat, Dg (n :: List.replicate 31 0), .int .i64 ((k : Int) + 3)] W fun e w' => e = .returned (.tuple #[.agg (ackA fo st k n).cells.toArray, .int .i64 0]) ∧ Gr W none w' := by
        intro W hW
        have h := ackMake_any fo (7 * k) st n.toNat ((k : Int) + 3) (n :: List.replicate 31 0) W (by simp) (by have := n.toNat_lt; unfold Ack.ints Leaf.ok; simp only; omega) hW
        rw [hA2] at h
        exact h
      have hMZ : ∀ W, Laid W → Calls Tryd.prog 21 #[.int .i64 fo, .int .i64 (7 * (k : Int)), .int .i64 st, .int .i64 0, Dg (List.replicate 32 0), .int .i64 ((k : Int) + 3)] W fun e w' => e = .returned (.tuple #[.agg (ackZ fo st k).cells.toArray, .int .i64 0]) ∧ Gr W none w' := by
        intro W hW
        have h := ackMake_any fo (7 * k) st 0 ((k : Int) + 3) (List.replicate 32 0) W (by simp) (by unfold Ack.ints Leaf.ok; simp only; omega) hW
        rw [hZ2] at h
        exact h
      have HAS := Lib.hid (acksOf_snoc fo st (ns.take k) n)
      have HMS := Lib.hid (memsOf_snoc (ns.take k) n)
      have HMN := Lib.hid (minOf_snoc (ns.take k) n)
      rw [hkl] at HAS HMS
      have HKL := Lib.hid hkl
      clear hA2 hZ2 hkl
      generalize ackA fo st k n = A at *
      generalize ackZ fo st k = Z at *
      have hAc := hAi.ch
      have hAint := hAi.ints
      have hAck := hAi.check
      have hZc := hZi.ch
      have HAI := Lib.hid hAi
      have HZI := Lib.hid hZi
      have hinA : ((Tryd.prog).info? 27).map (·.size) = some A.cells.length := by rw [Ack.cells_length _ hAc]; kernel_rfl
      have hinZ : ((Tryd.prog).info? 27).map (·.size) = some Z.cells.length := by rw [Ack.cells_length _ hZc]; kernel_rfl
      clear hAi hZi
      have hlt' : (k : Int) < (ns.length : Int) := by omega
      have hk0 : (0 : Int) ≤ (k : Int) := by omega
      have hk6 : (k : Int) < 5 := by omega
      go_upto_region 14 with (first
        | (go_at_call 20; refine (hP _).mono ?_; rintro e w2 ⟨rfl, hG2⟩)
        | (go_at_call 21; refine (hMA _ (hK.new (hG1.trans (hI.gr.trans hG2)))).mono ?_; rintro e w3 ⟨rfl, hG3⟩)
        | (refine wl_store_new rfl 27 _ _ rfl A.cells _ _ rfl rfl (by kernel_rfl) (by rw [Ack.cells_length _ hAc]; rfl) (Ack.cells_one _) ?_))
      have hX3 := Blk.new w3 27 A.cells
      have hGa : Gr wr none (w3.alloc (.cells A.cells.toArray 27)) := (hG2.trans hG3).alloc _
      have hlt3 : wr.heap.size ≤ w3.heap.size := (hG2.trans hG3).size
      change Code.wp _ _ _ _ (w3.alloc (.cells A.cells.toArray 27))
      generalize (w3.alloc (.cells A.cells.toArray 27)) = W3 at *
      generalize w3.heap.size = X3 at *
      go_upto_region 15 with (first
        | (go_at_call 21; refine (hMZ W3 (hK.new (hG1.trans (hI.gr.trans hGa)))).mono ?_; rintro e w4 ⟨rfl, hG4⟩)
        | (refine wl_store_new rfl 27 _ _ rfl Z.cells _ _ rfl rfl (by kernel_rfl) (by rw [Ack.cells_length _ hZc]; rfl) (Ack.cells_one _) ?_))
      have hX4 := Blk.new w4 27 Z.cells
      have hGb : Gr wr none (w4.alloc (.cells Z.cells.toArray 27)) := (hGa.trans hG4).alloc _
      have hX34 := (hX3.grown hG4 (by simp)).alloc (.cells Z.cells.toArray 27)
      have hlt4 : wr.heap.size ≤ w4.heap.size := (hGa.trans hG4).size
      change Code.wp _ _ _ _ (w4.alloc (.cells Z.cells.toArray 27))
      generalize (w4.alloc (.cells Z.cells.toArray 27)) = W4 at *
      generalize w4.heap.size = X4 at *
      clear hX3 hG2 hG3 hG4 hMA hMZ hP
      go_upto_region 17 with (first
        | (refine wl_load_blk_g (by rfl) 27 _ rfl X3 A.cells _ _ hX34 rfl Tryd.underlying27 rfl hinA ?_)
        | (go_at_call 22; refine (ackCheck_any A (pubOf k) W4 hAc hAint (hK.new (hG1.trans (hI.gr.trans hGb)))).mono ?_; rintro e w5 ⟨rfl, hG5⟩; rw [hAck]))
      have hGc := hGb.trans hG5
      have hX3' := hX34.grown hG5 (by simp)
      have hX4' := hX4.grown hG5 (by simp)
      clear hX34 hX4 hG5 hGb hGa
      obtain ⟨p10, c10, e10, hO10⟩ := hI.mem
      obtain ⟨p11, c11, e11, hO11⟩ := hI.ack
      have hap := hI.apart
      rw [e10, e11] at hap
      subst e10 e11
      have HI := Lib.hid hI.gr
      clear hI
      have hO10' := own_new hO10 hGc
      have hO11' := own_new hO11 hGc
      have hlm : (memsOf (ns.take k)).length + [memI k].length = k + 1 := by rw [memsOf_length, HKL.out]; rfl
      have HLM := Lib.hid hlm
      clear hlm
      have hB5 : w1.heap.size ≤ w5.heap.size := Nat.le_trans HI.out.size hGc.size
      go_upto_region 18 with (first
        | (at_builtin; refine wl_rows_k Mem.cells rfl _ _ 37 47 rfl im zm 3 24 Tryd.underlying37 im1 im2 im3 im4 im5 (by decide) (by decide) w1.heap.size (.slice p10 k c10) (memsOf (ns.take k)) [memI k] (k + 1) HLM.out rfl (hO10'.alloc _) _ rfl (Src.at rfl (by rw [List.flatMap_singleton]; exact at_new w5 (memI k).cells 47)) (fun b _ => b.cells_one) (by omega) (Nat.le_trans hB5 ((Gr.refl w5 none).alloc _).size) ?_; intro q10 d10 w6 hO6 hG6 hat6))
      have hN11 : ∀ b, (Value.slice p11 (2 * k) c11).ownBlock = some b → b < (w5.alloc (.cells (memI k).cells.toArray 47)).heap.size := fun b e => by have := own_lt hO11 b e; have := hGc.size; rw [World.size_alloc]; omega
      have hap6 := ap hat6 hap hN11
      have hO11'' := own_by (hO11'.alloc (.cells (memI k).cells.toArray 47)) hG6 hap
      have hne3 : some X3 ≠ (Value.slice p10 k c10).ownBlock := fun e => by have := own_lt hO10 _ e.symm; omega
      have hne4 : some X4 ≠ (Value.slice p10 k c10).ownBlock := fun e => by have := own_lt hO10 _ e.symm; omega
      have hX3 := (hX3'.alloc (.cells (memI k).cells.toArray 47)).grown hG6 hne3
      have hX4 := (hX4'.alloc (.cells (memI k).cells.toArray 47)).grown hG6 hne4
      have hGd : Gr w1 none w6 := ((HI.out.trans hGc).alloc (.cells (memI k).cells.toArray 47)).on hG6 (fun b e => .inl (own_ge hO10 b e))
      have hB6 : w1.heap.size ≤ (w6.alloc (.cells (A.cells ++ Z.cells).toArray 27)).heap.size := Nat.le_trans hGd.size ((Gr.refl w6 none).alloc _).size
      have hla : (acksOf fo st (ns.take k)).length + [A, Z].length = 2 * (k + 1) := by rw [acksOf_length, HKL.out]; rfl
      have HLA := Lib.hid hla
      clear hla hX3' hX4' hGc hO10' hO11' hne3 hne4
      have HAP := Lib.hid hap6
      have HAT := Lib.hid hat6
      clear hap6 hat6 hap hN11
      go_upto_region 19 with (first
        | (refine wl_load_blk rfl 27 _ rfl X3 A.cells _ _ hX3 rfl Tryd.underlying27 rfl hinA ?_)
        | (refine wl_load_blk rfl 27 _ rfl X4 Z.cells _ _ hX4 rfl Tryd.underlying27 rfl hinZ ?_)
        | (refine wl_build_ack2 (by rfl) (.tmp 105) (.tmp 106) rfl A Z hAc hZc rfl rfl ?_)
        | (at_builtin; refine wl_rows_k Ack.cells rfl _ _ 38 27 rfl ia za 38 80 Tryd.underlying38 ia1 ia2 ia3 ia4 ia5 (by decide) (by decide) w1.heap.size (.slice p11 (2 * k) c11) (acksOf fo st (ns.take k)) [A, Z] (2 * (k + 1)) HLA.out rfl (hO11''.alloc _) _ rfl (Src.at (flat_acks [A, Z] (fun x hx => by simp only [List.mem_cons, List.not_mem_nil, or_false] at hx; rcases hx with rfl | rfl <;> assumption)) (by rw [show [A, Z].flatMap Ack.cells = A.cells ++ Z.cells by simp]; exact at_new w6 (A.cells ++ Z.cells) 27)) (fun b _ => b.cells_one) (by omega) hB6 ?_; intro q11 d11 w7 hO7 hG7 hat7))
      have hO6' := own_by (hO6.alloc (.cells (A.cells ++ Z.cells).toArray 27)) hG7 HAP.out
      have hap7 := ap hat7 HAP.out (fun b e => by have := own_lt hO6 b e; rw [World.size_alloc]; omega)
      have hGe : Gr w1 none w7 := (hGd.alloc (.cells (A.cells ++ Z.cells).toArray 27)).on hG7 (fun b e => .inl (own_ge hO11'' b e))
      go_wp2_with fail
      go_roundw
      case rel => exact ⟨k + 1, by omega, int_eq (by omega), by rw [HT.out, HMN.out], ⟨hGe, ⟨q10, d10, rfl, by rw [HT.out, HMS.out]; exact hO6'⟩, ⟨q11, d11, rfl, by rw [HT.out, HAS.out]; exact hO7⟩, hap7⟩⟩
      case measure => simp [intOf]; omega
      -- dev]
    · obtain rfl : k = ns.length := by omega
      rw [List.take_length] at hI ⊢
      obtain ⟨p10, c10, rfl, hO10⟩ := hI.mem
      obtain ⟨p11, c11, rfl, hO11⟩ := hI.ack
      have hG2 := hG1.trans hI.gr
      clear hI hnp hlt hk
      have h0 : ns ≠ [] := fun e => by rw [e] at h1; simp at h1
      have hL : ∀ fo' st' W, Gr wr none W → Calls Tryd.prog 19 #[.slice p10 ns.length c10, .int .i64 fo', .int .i64 st', .slice p11 (2 * ns.length) c11] W fun e w' => e = .returned (.int .i64 (leastV fo' st' (acksOf fo st ns) (memsOf ns))) ∧ Gr W none w' := fun fo' st' W h =>
        least_own fo' st' (memsOf ns) (acksOf fo st ns) (hK.new (hG2.trans h)) (acksOf_ok hfo hst h5) (by rw [acksOf_length]; omega) (by rw [memsOf_length]; omega) (memsOf_ok h5) (own_new hO10 h) (own_new hO11 h)
      have hA := least_all hfo hst h5 h0
      have hB := least_other (fo' := fo) (st' := (st + 1) % 4) hfo hst h5 h0 (.inr (by omega))
      have hC := least_other (fo' := (fo + 1) % 16) (st' := st) hfo hst h5 h0 (.inl (by omega))
      have hL1 := hL fo st
      have hL2 := hL fo ((st + 1) % 4)
      have hL3 := hL ((fo + 1) % 16) st
      rw [hA] at hL1
      rw [hB] at hL2
      rw [hC] at hL3
      have HA := Lib.hid hA
      clear hA hB hC hL
      have e3 := i64_and3 (st + 1)
      have e15 := i64_and15 (fo + 1)
      generalize (st + 1) % 4 = st' at *
      generalize (fo + 1) % 16 = fo' at *
      generalize minOf ns = ln at *
      have hs1 : (0 : Int) ≤ st := hst.1
      have hs2 : st < (4 : Int) := hst.2
      have hf1 : (0 : Int) ≤ fo := hfo.1
      have hf2 : fo < (16 : Int) := hfo.2
      go_upto_region 23 with (first
        | (go_at_call 19; (with_reducible refine (hL1 wr (Gr.refl _ _)).mono ?_); rintro e w2 ⟨rfl, hG3⟩)
        | (go_at_call 19; (with_reducible refine (hL2 w2 hG3).mono ?_); rintro e w3 ⟨rfl, hG4⟩)
        | (go_at_call 19; (with_reducible refine (hL3 w3 (hG3.trans hG4)).mono ?_); rintro e w4 ⟨rfl, hG5⟩))
      have hG6 := hG3.trans (hG4.trans hG5)
      have hO10' := own_new hO10 hG6
      have hO11' := own_new hO11 hG6
      have hG7 := hG2.trans hG6
      clear hL1 hL2 hL3 hG3 hG4 hG5 hO10 hO11 e3 e15 hG2 hG6 hG1
      have hI0 : EI ln 0 [] w4 (.slice none 0 0) (.slice none 0 0) w4 := ⟨Gr.refl _ _, ⟨none, 0, rfl, World.ownsRow_nil _ _ _ _⟩, ⟨none, 0, 0, rfl, rfl, World.ownsRow_nil _ _ _ _⟩, .inl rfl⟩
      have HO10 := Lib.hid hO10'
      have HO11 := Lib.hid hO11'
      clear hO10' hO11'
      obtain ⟨ie, ze, ie1, ie2, ie3, ie4, ie5⟩ := info_ent
      obtain ⟨ii, ii1, ii2, ii3, ii4⟩ := info_int
      go_wp2_with fail
      go_loopw [143, 20, 21] (fun i v20 v21 wr => ∃ k : Nat, k ≤ gs.length ∧ i = .int .i64 k ∧ EI ln k (gs.take k) w4 v20 v21 wr) (fun i _ _ _ => (gs.length - intOf i).toNat)
      case atStart => exact ⟨0, by omega, rfl, hI0⟩
      case round =>
        obtain ⟨k, hk, rfl, hI⟩ := hrel
        clear hI0
        by_cases hlt : k < gs.length
        · obtain ⟨rfl, hgb, hgA⟩ := hgp.resolve_left (by intro e; rw [e] at hlt; simp at hlt)
          have hc := (hgA.grown (hG7.trans hI.gr) (by simp)).get k (by simpa using hlt)
          rw [List.getElem_map] at hc
          have HT := Lib.hid (show gs.take (k + 1) = gs.take k ++ [gs[k]] from (List.take_append_getElem hlt).symm)
          have hkl : (gs.take k).length = k := by simp; omega
          have HW := Lib.hid (wantOf_snoc ln (gs.take k) gs[k])
          generalize gs[k] = g at *
          have HKL := Lib.hid hkl
          clear hkl
          have hlt' : (k : Int) < (gs.length : Int) := by omega
          have hk0 : (0 : Int) ≤ (k : Int) := by omega
          have hk6 : (k : Int) < 60 := by omega
          obtain ⟨p20, c20, e20, hO20⟩ := hI.ent
          obtain ⟨p21, c21, n21, e21, hn21, hO21⟩ := hI.want
          have hap := hI.apart
          rw [e20, e21] at hap
          subst e20 e21
          have HI := Lib.hid hI.gr
          clear hI
          have HN21 := Lib.hid hn21
          clear hn21
          have hle : ((gs.take k).map entG).length + [entG g].length = k + 1 := by rw [List.length_map, HKL.out]; rfl
          have HLE := Lib.hid hle
          clear hle
          have hB5 : w4.heap.size ≤ wr.heap.size := HI.out.size
          have hAe := at_new wr (entG g).cells 45
          have HAE := Lib.hid hAe
          clear hAe
          go_upto_region 29 with (first
            | (at_builtin; refine wl_rows_k Ent.cells rfl _ _ 39 45 rfl ie ze 35 72 Tryd.underlying39 ie1 ie2 ie3 ie4 ie5 (by decide) (by decide) w4.heap.size (.slice p20 k c20) ((gs.take k).map entG) [entG g] (k + 1) HLE.out rfl (hO20.alloc _) _ rfl (Src.at (flat_ents [entG g] (fun x hx => by rw [List.mem_singleton.1 hx]; exact entG_fit g)) (by rw [List.flatMap_singleton]; exact HAE.out)) (fun b hb => Ent.cells_one (by rw [List.mem_singleton.1 hb]; exact entG_fit g)) (by omega) (Nat.le_trans hB5 ((Gr.refl wr none).alloc _).size) ?_; intro q20 d20 w6 hO6 hG6 hat6))
          have hN21 : ∀ b, (Value.slice p21 n21 c21).ownBlock = some b → b < (wr.alloc (.cells (entG g).cells.toArray 45)).heap.size := fun b e => by have := own_lt hO21 b e; rw [World.size_alloc]; omega
          have hap6 := ap hat6 hap hN21
          have hOs := own_by (hO21.alloc (.cells (entG g).cells.toArray 45)) hG6 hap
          have hGd : Gr w4 none w6 := (HI.out.alloc (.cells (entG g).cells.toArray 45)).on hG6 (fun b e => .inl (own_ge hO20 b e))
          have HAP := Lib.hid hap6
          clear hap6 hat6 hap hN21 hc
          have hOe : w6.ownsRow w4.heap.size 45 35 (.slice q20 (k + 1) d20) ((gs.take (k + 1)).map entG).length (((gs.take (k + 1)).map entG).flatMap Ent.cells) := by rw [HT.out, List.map_append, List.map_singleton]; exact hO6
          have HOE := Lib.hid hOe
          clear hOe
          by_cases hw : g = true ∧ ln < (((gs.take k).length : Nat) : Int) + 1
          · obtain ⟨rfl, hln⟩ := hw
            have HW2 := Lib.hid (show wantOf ln (gs.take (k + 1)) = wantOf ln (gs.take k) ++ [(k : Int) + 1] by rw [HT.out, HW.out, if_pos ⟨rfl, hln⟩, HKL.out])
            rw [HKL.out] at hln
            have hln' : ln ≤ (k : Int) := by omega
            clear hln
            have hlw : (wantOf ln (gs.take k)).length + [(k : Int) + 1].length = n21 + 1 := by rw [← HN21.out]; rfl
            have hn60 : n21 ≤ 60 := by
              have h6 := wantOf_length ln (gs.take k)
              have := HN21.out
              have := HKL.out
              omega
            have HLW := Lib.hid hlw
            clear hlw
            go_upto_region 31 with (first
              | (at_builtin; refine wl_rows_k cI rfl _ _ 42 3 rfl ii (.int .i64 0) 1 8 Tryd.underlying42 ii1 ii2 ii3 ii4 rfl (by decide) (by decide) w4.heap.size (.slice p21 n21 c21) (wantOf ln (gs.take k)) [(k : Int) + 1] (n21 + 1) HLW.out rfl (hOs.alloc _) _ rfl (Src.at rfl (by rw [List.flatMap_singleton]; exact at_new w6 (cI ((k : Int) + 1)) 3)) (fun b _ v hv => by rw [List.mem_singleton.1 hv]; rfl) (by omega) (Nat.le_trans hGd.size ((Gr.refl w6 none).alloc _).size) ?_; intro q21 d21 w7 hO7 hG7 hat7))
            have hOe' := own_by (HOE.out.alloc (.cells (cI ((k : Int) + 1)).toArray 3)) hG7 HAP.out
            have hap7 := ap hat7 HAP.out (fun b e => by have := own_lt HOE.out b e; rw [World.size_alloc]; omega)
            have hGe : Gr w4 none w7 := (hGd.alloc (.cells (cI ((k : Int) + 1)).toArray 3)).on hG7 (fun b e => .inl (own_ge hOs b e))
            have HIE := Lib.hid (show EI ln (k + 1) (gs.take (k + 1)) w4 (.slice q20 (k + 1) d20) (.slice q21 (n21 + 1) d21) w7 from ⟨hGe, ⟨_, _, rfl, hOe'⟩, ⟨_, _, _, rfl, by rw [HW2.out, List.length_append, HN21.out]; rfl, by rw [HW2.out]; exact hO7⟩, hap7⟩)
            clear hOe' hap7 hat7
            go_wp2_with fail
            go_roundw
            case rel => exact ⟨k + 1, by omega, int_eq (by omega), HIE.out⟩
            case measure => simp [intOf]; omega
          · have HW2 := Lib.hid (show wantOf ln (gs.take (k + 1)) = wantOf ln (gs.take k) by rw [HT.out, HW.out, if_neg hw])
            have hap7 : (Value.slice q20 (k + 1) d20).ownBlock = none ∨ (Value.slice q20 (k + 1) d20).ownBlock ≠ (Value.slice p21 n21 c21).ownBlock := by
              rcases HAP.out with h | h
              · rw [h]; cases (Value.slice q20 (k + 1) d20).ownBlock <;> simp
              · exact .inr fun e => h e.symm
            have HIE := Lib.hid (show EI ln (k + 1) (gs.take (k + 1)) w4 (.slice q20 (k + 1) d20) (.slice p21 n21 c21) w6 from ⟨hGd, ⟨_, _, rfl, HOE.out⟩, ⟨_, _, _, rfl, by rw [HW2.out]; exact HN21.out, by rw [HW2.out]; exact hOs⟩, hap7⟩)
            clear hap7
            cases hg : g with
            | false =>
              go_wp2_with fail
              go_roundw
              case rel => exact ⟨k + 1, by omega, int_eq (by omega), HIE.out⟩
              case measure => simp [intOf]; omega
            | true =>
              have hln : ¬ ln ≤ (k : Int) := fun h => hw ⟨hg, by rw [HKL.out]; omega⟩
              clear hw
              go_wp2_with fail
              go_roundw
              case rel => exact ⟨k + 1, by omega, int_eq (by omega), HIE.out⟩
              case measure => simp [intOf]; omega
        · obtain rfl : k = gs.length := by omega
          rw [List.take_length] at hI
          obtain ⟨p20, c20, rfl, hO20⟩ := hI.ent
          obtain ⟨p21, c21, n21, rfl, hn21, hO21⟩ := hI.want
          have hGr := hI.gr
          clear hI hlt hk hgp
          have hWr := wrong_own fo st (memsOf ns) (acksOf fo st ns) (gs.map entG) (hK.new (hG7.trans hGr)) (acksOf_ok hfo hst h5) (by rw [acksOf_length]; omega) (by rw [memsOf_length]; omega) (memsOf_ok h5) (fun e he => by obtain ⟨g, _, rfl⟩ := List.mem_map.1 he; exact entG_fit g) (by rw [List.length_map]; omega) (own_new HO10.out hGr) (own_new HO11.out hGr) hO20
          have hwv : wrongV fo st (acksOf fo st ns) (memsOf ns) (gs.map entG) = wantOf ln gs := by unfold wrongV wantOf; rw [HA.out]
          rw [hwv] at hWr
          clear hwv
          have HN := Lib.hid hn21
          clear hn21
          have hO21' : OwnI wr w4.heap.size (.slice p21 n21 c21) (wantOf ln gs) := by have h := hO21; rw [flat_ints] at h; exact h
          have hwl := wantOf_length ln gs
          have hSm : ∀ W v, Gr wr none W → OwnI W wr.heap.size v (wantOf ln gs) → Calls Tryd.prog 23 #[v, .slice p21 n21 c21] W fun e w' => e = .returned (.bool true) ∧ Gr W none w' := by
            intro W v hg hv
            obtain ⟨p, c, b, rfl, hat⟩ := hv.row
            obtain ⟨p2, c2, b2, e2, hat2⟩ := OwnI.row (own_new hO21' hg)
            rw [e2]
            have h := same_any p p2 b b2 c c2 (wantOf ln gs) (wantOf ln gs) W (by omega) (by omega) hat hat2
            rw [decide_eq_true rfl] at h
            exact h
          clear hO21 hO20 hO21' hwl
          go_wp2_with (first
            | (go_at_call 14; (with_reducible refine hWr.mono ?_); rintro e w8 ⟨v8, rfl, hO8, hG8⟩)
            | (go_at_call 23; (with_reducible refine (hSm w8 v8 hG8 hO8).mono ?_); rintro e w9 ⟨rfl, hG9⟩))
          go_ret
          exact ⟨rfl, hG7.trans (hGr.trans (hG8.trans hG9))⟩
end Go.Proofs.YtjibmhmaoegcnaaDoor
