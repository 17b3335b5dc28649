/- chain's 'item' of a vote. -/
import Derived.Test.YtildkoabfdfjlaaCRight
set_option linter.all false
namespace Go.Proofs.Ytildkoabfdfjlaa
open Go.RowKit
open Rlp (It)

/-- the item of a vote -/
def votIt (v : VotI) : It := .list [.str (Rlp.short v.kind.toNat), .str (Rlp.short v.height.toNat), .str (Rlp.short v.round.toNat), .str v.block, .str (Rlp.short v.by_.toNat), .str v.sig]

theorem strN_c (A : Option Addr) (cap n : Nat) (l : List UInt8) (hn : l.length = n) (hl : n ≤ 140737488355328) (w : World) (hr : Rd 0 w A (bytesV l)) :
    Calls Try.prog 19 #[.slice A n cap] w (GivesItem w (.str l)) := by
  subst hn; exact str_c A cap l w hl hr

theorem rd_new (W : World) (l : List Value) (t : TypeId) : Rd 0 (W.alloc (.cells l.toArray t)) (some ⟨W.heap.size, 0, none⟩) l :=
  Or.inr ⟨_, _, Nat.zero_le _, rfl, fun j hj => by
    rw [Nat.zero_add, List.getElem?_eq_getElem hj]
    exact cell_of_heap (World.alloc_heap_new _ _) (by simp [hj])⟩

/-- a call that gives an item, met -/
theorem gives_at {f : FuncId} {args : Array Value} {w : World} {x : It} (h : Calls Try.prog f args w (GivesItem w x)) (K : Ending → World → Prop)
    (hK : ∀ f A k c B m d w', Hid (ItemR w.heap.size w' x (.bool f) (.slice A k c) (.slice B m d)) → Below w.heap.size w w' → K (.returned (.agg #[.bool f, .slice A k c, .slice B m d])) w') : Calls Try.prog f args w K :=
  h.mono fun e w' hg => by
    obtain ⟨c0, c1, c2, rfl, hI, hB⟩ := hg
    obtain ⟨f, A1, k1, cp1, B1, m1, d1, rfl, rfl, rfl⟩ := hI.shape
    exact hK _ _ _ _ _ _ _ _ hI hB

theorem item6 (n : Nat) (w : World) {n0 n1 n2 n3 n4 n5 : Nat} {w0 w1 w2 w3 w4 w5 : World} {x0 x1 x2 x3 x4 x5 : It}
    {f0 f1 f2 f3 f4 f5 : Bool} {A0 A1 A2 A3 A4 A5 B0 B1 B2 B3 B4 B5 : Option Addr} {k0 k1 k2 k3 k4 k5 c0 c1 c2 c3 c4 c5 m0 m1 m2 m3 m4 m5 d0 d1 d2 d3 d4 d5 : Nat}
    (h0 : ItemR n0 w0 x0 (.bool f0) (.slice A0 k0 c0) (.slice B0 m0 d0)) (b0 : Below w0.heap.size w0 w) (e0 : n ≤ n0)
    (h1 : ItemR n1 w1 x1 (.bool f1) (.slice A1 k1 c1) (.slice B1 m1 d1)) (b1 : Below w1.heap.size w1 w) (e1 : n ≤ n1)
    (h2 : ItemR n2 w2 x2 (.bool f2) (.slice A2 k2 c2) (.slice B2 m2 d2)) (b2 : Below w2.heap.size w2 w) (e2 : n ≤ n2)
    (h3 : ItemR n3 w3 x3 (.bool f3) (.slice A3 k3 c3) (.slice B3 m3 d3)) (b3 : Below w3.heap.size w3 w) (e3 : n ≤ n3)
    (h4 : ItemR n4 w4 x4 (.bool f4) (.slice A4 k4 c4) (.slice B4 m4 d4)) (b4 : Below w4.heap.size w4 w) (e4 : n ≤ n4)
    (h5 : ItemR n5 w5 x5 (.bool f5) (.slice A5 k5 c5) (.slice B5 m5 d5)) (b5 : Below w5.heap.size w5 w) (e5 : n ≤ n5) :
    ItemsR n w [x0, x1, x2, x3, x4, x5] [.bool f0, .slice A0 k0 c0, .slice B0 m0 d0, .bool f1, .slice A1 k1 c1, .slice B1 m1 d1, .bool f2, .slice A2 k2 c2, .slice B2 m2 d2, .bool f3, .slice A3 k3 c3, .slice B3 m3 d3, .bool f4, .slice A4 k4 c4, .slice B4 m4 d4, .bool f5, .slice A5 k5 c5, .slice B5 m5 d5] := by
  simp only [ItemsR]
  exact ⟨_, _, _, _, rfl, ItemR.mono e0 _ _ _ _ (ItemR.below b0 _ _ _ _ h0), _, _, _, _, rfl, ItemR.mono e1 _ _ _ _ (ItemR.below b1 _ _ _ _ h1), _, _, _, _, rfl, ItemR.mono e2 _ _ _ _ (ItemR.below b2 _ _ _ _ h2),
    _, _, _, _, rfl, ItemR.mono e3 _ _ _ _ (ItemR.below b3 _ _ _ _ h3), _, _, _, _, rfl, ItemR.mono e4 _ _ _ _ (ItemR.below b4 _ _ _ _ h4), _, _, _, _, rfl, ItemR.mono e5 _ _ _ _ (ItemR.below b5 _ _ _ _ h5), rfl⟩

/-- an item's three cells stand at B, zero, and may be written -/
def ZeroItem (B : Nat) (W : World) : Prop :=
  W.cell? ⟨B, 0, none⟩ = some (.bool false) ∧ W.cell? ⟨B, 1, none⟩ = some (.slice none 0 0) ∧ W.cell? ⟨B, 2, none⟩ = some (.slice none 0 0) ∧
  W.frozen? ⟨B, 0, none⟩ = false ∧ W.frozen? ⟨B, 1, none⟩ = false ∧ W.frozen? ⟨B, 2, none⟩ = false
theorem ZeroItem.of {B : Nat} {W : World} {t : TypeId} (h : W.heap[B]? = some (.cells #[.bool false, .slice none 0 0, .slice none 0 0] t (0, 0))) : ZeroItem B W := by
  refine ⟨cell_of_heap h rfl, cell_of_heap h rfl, cell_of_heap h rfl, ?_, ?_, ?_⟩ <;> (unfold World.frozen?; rw [h]; rfl)

set_option maxRecDepth 100000 in
set_option maxHeartbeats 1000000 in
theorem vitem_c (v : VotI) (hv : v.Ok) (w : World) :
    Calls Try.prog 84 #[.agg v.cells.toArray] w (GivesItem w (votIt v)) := by
  obtain ⟨k, h, r, b, y, s⟩ := v
  obtain ⟨hb, hs, h0, h1, k1, r1, y1⟩ := hv
  dsimp only at hb hs h0 h1 k1 r1 y1
  obtain ⟨cs, hcs⟩ : ∃ cs, (votV k h r b y s).toArray = cs := ⟨_, rfl⟩
  have e0 : cs[0]? = some (.int .i64 k) := by rw [← hcs]; rfl
  have e1 : cs[1]? = some (.int .u64 h) := by rw [← hcs]; rfl
  have e2 : cs[2]? = some (.int .i64 r) := by rw [← hcs]; rfl
  have e35 : cs[35]? = some (.int .i64 y) := by
    rw [← hcs]; unfold votV
    rw [List.getElem?_toArray, List.getElem?_cons_succ, List.getElem?_cons_succ, List.getElem?_cons_succ, List.getElem?_append_right (by rw [bytesV_length]; omega), bytesV_length, hb]; rfl
  have eb : ∀ j, j < 32 → cs[3 + j]? = (bytesV b)[j]? := by
    intro j hj
    rw [← hcs]; unfold votV
    rw [List.getElem?_toArray, show 3 + j = j + 1 + 1 + 1 by omega, List.getElem?_cons_succ, List.getElem?_cons_succ, List.getElem?_cons_succ, List.getElem?_append_left (by rw [bytesV_length]; omega)]
  have es : ∀ j, j < 64 → cs[36 + j]? = (bytesV s)[j]? := by
    intro j hj
    rw [← hcs]; unfold votV
    rw [List.getElem?_toArray, show 36 + j = (j + 33) + 1 + 1 + 1 by omega, List.getElem?_cons_succ, List.getElem?_cons_succ, List.getElem?_cons_succ, List.getElem?_append_right (by rw [bytesV_length]; omega), bytesV_length, hb, show j + 33 - 32 = j + 1 by omega, List.getElem?_cons_succ]
  have hbox : Hid (∀ W : World, W.heap[w.heap.size]? = some (.cells cs 141 (0, 0)) →
      (W.cell? ⟨w.heap.size, 0, none⟩ = some (.int .i64 k) ∧ W.cell? ⟨w.heap.size, 1, none⟩ = some (.int .u64 h) ∧ W.cell? ⟨w.heap.size, 2, none⟩ = some (.int .i64 r) ∧ W.cell? ⟨w.heap.size, 35, none⟩ = some (.int .i64 y)) ∧
      Rd 0 W (some ⟨w.heap.size, 3, none⟩) (bytesV b) ∧ Rd 0 W (some ⟨w.heap.size, 36, none⟩) (bytesV s)) := by
    intro W hW
    refine ⟨⟨cell_of_heap hW e0, cell_of_heap hW e1, cell_of_heap hW e2, cell_of_heap hW e35⟩, Or.inr ⟨_, _, Nat.zero_le _, rfl, fun j hj => ?_⟩, Or.inr ⟨_, _, Nat.zero_le _, rfl, fun j hj => ?_⟩⟩
    · rw [bytesV_length, hb] at hj
      rw [← eb j hj]; simp [World.cell?, hW]
    · rw [bytesV_length, hs] at hj
      rw [← es j hj]; simp [World.cell?, hW]
  have H1 := Lib.hid (show h ≤ 18446744073709551615 from h1)
  have HL := Lib.hid (And.intro hb hs)
  have HCS := Lib.hid hcs
  show Calls Try.prog _ #[.agg (votV k h r b y s).toArray] w _
  rw [hcs]
  clear hcs e0 e1 e2 e35 eb es h1 hb hs
  go_enter Try.func84, Try.ntmps84
  go_wp2_with fail
  obtain ⟨W0, hW0⟩ : ∃ W, (w.alloc (.cells cs 141)).alloc (.cells #[.bool false, .slice none 0 0, .slice none 0 0] 50) = W := ⟨_, rfl⟩
  have hB0 : Below w.heap.size w W0 := by rw [← hW0]; exact bnew2 _ _ _
  have hz0 : W0.heap.size = w.heap.size + 2 := by rw [← hW0]; simp
  have hbx0 : W0.heap[w.heap.size]? = some (.cells cs 141 (0, 0)) := by
    rw [← hW0, Below.heap_alloc _ _ _ (by simp)]; exact World.alloc_heap_new _ _
  have HBX : Hid (∀ W : World, Below W0.heap.size W0 W →
      (W.cell? ⟨w.heap.size, 0, none⟩ = some (.int .i64 k) ∧ W.cell? ⟨w.heap.size, 1, none⟩ = some (.int .u64 h) ∧ W.cell? ⟨w.heap.size, 2, none⟩ = some (.int .i64 r) ∧ W.cell? ⟨w.heap.size, 35, none⟩ = some (.int .i64 y)) ∧
      Rd 0 W (some ⟨w.heap.size, 3, none⟩) (bytesV b) ∧ Rd 0 W (some ⟨w.heap.size, 36, none⟩) (bytesV s)) :=
    fun W hW => hbox.out W ((hW.block _ (by omega)).trans hbx0)
  have hit0 : W0.heap[w.heap.size + 1]? = some (.cells #[.bool false, .slice none 0 0, .slice none 0 0] 50 (0, 0)) := by
    rw [← hW0]
    have := World.alloc_heap_new (w.alloc (.cells cs 141)) (.cells #[.bool false, .slice none 0 0, .slice none 0 0] 50)
    rwa [World.size_alloc] at this
  have HIT : Hid (∀ W : World, Below W0.heap.size W0 W → ZeroItem (w.heap.size + 1) W) :=
    fun W hW => ZeroItem.of ((hW.block _ (by omega)).trans hit0)
  rw [hW0]
  obtain ⟨⟨q0, q1, q2, q3⟩, _, _⟩ := HBX.out W0 (Below.refl _ _)
  have HZ := Lib.hid (And.intro hB0 hz0)
  clear hW0 hB0 hz0 hbx0 hbox hit0
  go_region_held3 (fun w' => w'.cell? ⟨w.heap.size, 0, none⟩ = some (.int .i64 k) ∧ w'.cell? ⟨w.heap.size, 1, none⟩ = some (.int .u64 h) ∧ w'.cell? ⟨w.heap.size, 2, none⟩ = some (.int .i64 r) ∧ w'.cell? ⟨w.heap.size, 35, none⟩ = some (.int .i64 y))
    (first
      | exact (HBX.out _ HbG).1
      | exact (HBX.out _ (HbF.alloc HbF.size _)).1
      | exact (HBX.out _ HbF).1
      | exact (HBX.out _ HbE).1
      | exact (HBX.out _ HbD).1
      | exact (HBX.out _ HbC).1
      | exact (HBX.out _ HbB).1
      | exact (HBX.out _ HbA).1
      | go_keep)
    (first
      | (go_at_call 59; first
          | ((with_reducible refine gives_at (cnum_c k k1 _) _ ?_); intro fA AA kA cA BA mA dA wA HA hA; have HbA : Below W0.heap.size W0 wA := bstep ((Below.refl _ W0).drew) hA)
          | ((with_reducible refine gives_at (cnum_c r r1 _) _ ?_); intro fC AC kC cC BC mC dC wC HC hC; have HbC : Below W0.heap.size W0 wC := bstep HbB hC)
          | ((with_reducible refine gives_at (cnum_c y y1 _) _ ?_); intro fE AE kE cE BE mE dE wE HE hE; have HbE : Below W0.heap.size W0 wE := bstep HbD hE))
      | (go_at_call 16; (with_reducible refine gives_at (num_c h h0 H1 _) _ ?_); intro fB AB kB cB BB mB dB wB HB hB; have HbB : Below W0.heap.size W0 wB := bstep HbA hB)
      | (go_at_call 19; first
          | ((with_reducible refine gives_at (strN_c (some ⟨w.heap.size, 3, none⟩) 32 32 b HL.out.1 (by decide) _ (HBX.out _ HbC).2.1) _ ?_); intro fD AD kD cD BD mD dD wD HD hD; have HbD : Below W0.heap.size W0 wD := bstep HbC hD)
          | ((with_reducible refine gives_at (strN_c (some ⟨w.heap.size, 36, none⟩) 64 64 s HL.out.2 (by decide) _ (HBX.out _ HbE).2.2) _ ?_); intro fF AF kF cF BF mF dF wF HF hF; have HbF : Below W0.heap.size W0 wF := bstep HbE hF))
      | (go_at_call 15
         have HI6 := Lib.hid (item6 (w.heap.size + 2) (wF.alloc (.cells #[.bool fA, .slice AA kA cA, .slice BA mA dA, .bool fB, .slice AB kB cB, .slice BB mB dB, .bool fC, .slice AC kC cC, .slice BC mC dC, .bool fD, .slice AD kD cD, .slice BD mD dD, .bool fE, .slice AE kE cE, .slice BE mE dE, .bool fF, .slice AF kF cF, .slice BF mF dF] 50)) HA.out (bstep (bstep (bstep (bstep (bstep hB hC) hD) hE) hF) (bnew wF _)) (by have := HZ.out.2; show _ ≤ W0.heap.size; omega) HB.out (bstep (bstep (bstep (bstep hC hD) hE) hF) (bnew wF _)) (by have := HZ.out.2; have := HbA.size; omega) HC.out (bstep (bstep (bstep hD hE) hF) (bnew wF _)) (by have := HZ.out.2; have := HbB.size; omega) HD.out (bstep (bstep hE hF) (bnew wF _)) (by have := HZ.out.2; have := HbC.size; omega) HE.out (bstep hF (bnew wF _)) (by have := HZ.out.2; have := HbD.size; omega) HF.out (bnew wF _) (by have := HZ.out.2; have := HbE.size; omega))
         clear HA HB HC HD HE HF hA hB hC hD hE hF HbA HbB HbC HbD HbE
         refine (list_c (some ⟨wF.heap.size, 0, none⟩) 6 [.str (Rlp.short k.toNat), .str (Rlp.short h.toNat), .str (Rlp.short r.toNat), .str b, .str (Rlp.short y.toNat), .str s] _ _ (Lib.hid (by simp)) (Lib.hid ⟨rd_new wF _ _, ItemsR.mono (Nat.zero_le _) _ _ HI6.out⟩) (Lib.hid (fun h => by cases h))).mono ?_
         rintro e wG ⟨A', cap', rfl, hcap, hR, hG⟩; have HbG : Below W0.heap.size W0 wG := bstep (bstep HbF (bnew wF _)) hG; obtain ⟨g0, g1, g2, g3, g4, g5⟩ := HIT.out _ HbG
         have HL := Lib.hid (And.intro hcap (And.intro hR (ItemsR.below hG _ _ HI6.out))); clear hcap hR hG HI6))
  have hszF := HbF.size
  have hfin : ItemR (w.heap.size + 1 + 1) wG (.list [.str (Rlp.short k.toNat), .str (Rlp.short h.toNat), .str (Rlp.short r.toNat), .str b, .str (Rlp.short y.toNat), .str s]) (.bool true) (.slice none 0 0) (.slice A' 6 cap') :=
    ItemR.mk_list HL.out.1 (HL.out.2.1.mono (by have := HZ.out.2; simp; omega)) HL.out.2.2 none 0
  obtain ⟨r1, r2⟩ := item_ret (w := w) (w.heap.size + 1) (by omega) hfin (bstep HZ.out.1 HbG)
  have HR1 := Lib.hid (And.intro r1 r2); clear r1 r2 hfin
  go_wp2
  exact bodyPost_ret (v := .agg #[.bool true, .slice none 0 0, .slice A' 6 cap']) (by simp [results, Try.results84, go_sem, g0, g1, g2]) rfl ⟨_, _, _, rfl, HR1.out.1, HR1.out.2⟩
end Go.Proofs.Ytildkoabfdfjlaa
