/- A log: what it is (LogX), End, First, last, Sync, Get. A log's Sync and Get. -/
import Derived.Test.YtnljhabpcoiihaaGreatDoorNums
import Derived.Test.YtnljhabpcoiihaaGreatDoorThere
set_option linter.all false
namespace Go.Proofs.YtnljhabpcoiihaaGreatDoor
open Go.RowKit

structure PartM where
  frm : Int
  many : Nat
  size : Nat
  deriving DecidableEq
structure LogM where
  name : List UInt8
  most : Int
  parts : List PartM
  recs : List (List UInt8)
  first : Int
  dirty : Bool
  deriving DecidableEq

def PartM.cells (p : PartM) : List Value := [.int .i64 p.frm, .int .i64 (p.many : Int), .int .i64 (p.size : Int)]
def partCells (l : List PartM) : List Value := l.flatMap PartM.cells
theorem partCells_length (l : List PartM) : (partCells l).length = l.length * 3 := by
  induction l with
  | nil => rfl
  | cons p r ih => simp only [partCells, List.flatMap_cons, List.length_append, List.length_cons] at ih ⊢; rw [ih]; simp [PartM.cells]; omega

/-- a log, written out: its block, its parts, its records' slices -/
structure LogX (n : Nat) (w : World) (bl bd : Nat) (pv rv : Value) (vs : List Value) (G : LogM) : Prop where
  le : n ≤ bl
  at_ : w.heap[bl]? = some (.cells #[.pointer (some ⟨bd, 0, none⟩), .string ⟨G.name.toArray⟩, .int .i64 G.most, pv, rv, .int .i64 G.first, .bool G.dirty] 143 (0, 0))
  parts : w.ownsRow n 159 3 pv G.parts.length (partCells G.parts)
  recs : w.ownsRow n 29 1 rv G.recs.length vs
  each : ∀ (k : Nat) (v : Value) (l : List UInt8), vs[k]? = some v → G.recs[k]? = some l → Bs 5 w v l
  few : G.recs.length ≤ 1099511627776 ∧ G.parts.length ≤ 1099511627776
  fst : 0 ≤ G.first ∧ G.first ≤ 1000000000
  nm : G.name.length ≤ 16
def LogR (n : Nat) (w : World) (bl bd : Nat) (G : LogM) : Prop := ∃ pv rv vs, LogX n w bl bd pv rv vs G

theorem LogX.vlen {n : Nat} {w : World} {bl bd : Nat} {pv rv : Value} {vs : List Value} {G : LogM} (h : LogX n w bl bd pv rv vs G) : vs.length = G.recs.length := by
  have := h.recs.1; omega
/-- the blocks that a log lies in, and the bytes, are as they were -/
def KeepsL (w w' : World) : Prop := ∀ (b : Nat) (o : Obj), w.heap[b]? = some o → (tagOf o = some 143 ∨ tagOf o = some 159 ∨ tagOf o = some 29 ∨ tagOf o = some 5) → w'.heap[b]? = some o
theorem own_keeps {w w' : World} {base n : Nat} {e : TypeId} {size : Nat} {v : Value} {xs : List Value} (h : w.ownsRow base e size v n xs) (hk : ∀ (b : Nat) (o : Obj), w.heap[b]? = some o → tagOf o = some e → w'.heap[b]? = some o) : w'.ownsRow base e size v n xs := by
  obtain ⟨hl, h | ⟨g, cap, cur, hv, hg, hh, r⟩⟩ := h
  · exact ⟨hl, .inl h⟩
  · exact ⟨hl, .inr ⟨g, cap, cur, hv, hg, hk g _ hh rfl, r⟩⟩
theorem LogX.keeps {n : Nat} {w w' : World} {bl bd : Nat} {pv rv : Value} {vs : List Value} {G : LogM} (h : LogX n w bl bd pv rv vs G) (hk : KeepsL w w') : LogX n w' bl bd pv rv vs G :=
  ⟨h.le, hk _ _ h.at_ (.inl rfl), own_keeps h.parts fun b o hb ht => hk b o hb (.inr (.inl ht)), own_keeps h.recs fun b o hb ht => hk b o hb (.inr (.inr (.inl ht))),
    fun k v l hv hl => (h.each k v l hv hl).keeps fun b o hb ht => hk b o hb (.inr (.inr (.inr ht))), h.few, h.fst, h.nm⟩
theorem KeepsL.of_turn {n : Nat} {T : List (Option TypeId)} {w w' : World} (h : Turn n T w w') (h0 : some 143 ∉ T) (h1 : some 159 ∉ T) (h2 : some 29 ∉ T) (h3 : some 5 ∉ T) : KeepsL w w' :=
  fun b o hb ht => h.block b o hb (.inr (by rcases ht with ht | ht | ht | ht <;> rw [ht] <;> assumption))
theorem KeepsL.of_below {w w' : World} (h : Below w.heap.size w w') : KeepsL w w' := fun b o hb _ => (h.block b (heap_lt hb)).trans hb
theorem LogX.below {n : Nat} {w w' : World} {bl bd : Nat} {pv rv : Value} {vs : List Value} {G : LogM} (h : LogX n w bl bd pv rv vs G) (hb : Below w.heap.size w w') : LogX n w' bl bd pv rv vs G := h.keeps (KeepsL.of_below hb)
theorem LogR.keeps {n : Nat} {w w' : World} {bl bd : Nat} {G : LogM} (h : LogR n w bl bd G) (hk : KeepsL w w') : LogR n w' bl bd G := by
  obtain ⟨pv, rv, vs, h⟩ := h; exact ⟨pv, rv, vs, h.keeps hk⟩
theorem LogR.below {n : Nat} {w w' : World} {bl bd : Nat} {G : LogM} (h : LogR n w bl bd G) (hb : Below w.heap.size w w') : LogR n w' bl bd G := h.keeps (KeepsL.of_below hb)

def LogM.fin (G : LogM) : Int := G.first + G.recs.length

set_option maxRecDepth 100000 in
set_option maxHeartbeats 400000 in
theorem end_c (n bl bd : Nat) (G : LogM) (w : World) (hL : LogR n w bl bd G) :
    Calls Tryz.prog 46 #[.pointer (some ⟨bl, 0, none⟩)] w fun e w' => e = .returned (.int .i64 G.fin) ∧ ∃ q, w' = w.drewN q := by
  obtain ⟨pv, rv, vs, hX⟩ := hL
  have c4 := Joins.cell_of_block hX.at_ 4
  have c5 := Joins.cell_of_block hX.at_ 5
  obtain ⟨A, cap, rfl, _, _, _⟩ := own_slice hX.recs
  have hw : wrap64 (G.first + (G.recs.length : Int)) = G.first + G.recs.length := by have := hX.few; have := hX.fst; unfold wrap64; omega
  unfold LogM.fin
  have HX := Lib.hid hX; clear hX
  simp at c4 c5
  obtain ⟨F, hF⟩ : ∃ F, G.first = F := ⟨_, rfl⟩
  obtain ⟨R, hR⟩ : ∃ R, G.recs.length = R := ⟨_, rfl⟩
  rw [hF, hR] at hw
  rw [hF] at c5
  rw [hR] at c4
  rw [hF, hR]
  clear hF hR
  have c4' : w.drew.cell? ⟨bl, 4, none⟩ = some (.slice A R cap) := c4
  have c5' : w.drew.cell? ⟨bl, 5, none⟩ = some (.int .i64 F) := c5
  go_enter Tryz.func46, Tryz.ntmps46
  go_wp2_with fail
  go_region
  go_wp2_with fail
  go_ret
  exact ⟨by rw [hw]; rfl, 1, rfl⟩
set_option maxRecDepth 100000 in
set_option maxHeartbeats 400000 in
theorem first_c (n bl bd : Nat) (G : LogM) (w : World) (hL : LogR n w bl bd G) :
    Calls Tryz.prog 45 #[.pointer (some ⟨bl, 0, none⟩)] w fun e w' => e = .returned (.int .i64 G.first) ∧ w' = w := by
  obtain ⟨pv, rv, vs, hX⟩ := hL
  have c5 := Joins.cell_of_block hX.at_ 5
  have HX := Lib.hid hX; clear hX
  simp at c5
  go_enter Tryz.func45, Tryz.ntmps45
  go_wp2
  go_ret
  exact ⟨rfl, rfl⟩

set_option maxRecDepth 100000 in
set_option maxHeartbeats 400000 in
theorem last_none (n bl bd : Nat) (G : LogM) (w : World) (hL : LogR n w bl bd G) (h0 : G.parts = []) :
    Calls Tryz.prog 117 #[.pointer (some ⟨bl, 0, none⟩)] w fun e w' => e = .returned (.tuple #[.pointer none, .bool false]) ∧ w' = w := by
  obtain ⟨pv, rv, vs, hX⟩ := hL
  have c3 := Joins.cell_of_block hX.at_ 3
  obtain ⟨A, cap, rfl, _, _, _⟩ := own_slice hX.parts
  rw [h0] at c3
  have HX := Lib.hid hX; clear hX
  simp at c3
  go_enter Tryz.func117, Tryz.ntmps117
  go_wp2
  go_ret2
  exact ⟨rfl, rfl⟩

set_option maxRecDepth 100000 in
set_option maxHeartbeats 400000 in
theorem last_some (n bl bd : Nat) (G : LogM) (g cap : Nat) (rv : Value) (vs : List Value) (m : Nat) (w : World) (hX : LogX n w bl bd (.slice (some ⟨g, 0, none⟩) (m + 1) cap) rv vs G) :
    Calls Tryz.prog 117 #[.pointer (some ⟨bl, 0, none⟩)] w fun e w' => e = .returned (.tuple #[.pointer (some ⟨g, m * 3, none⟩), .bool true]) ∧ ∃ q, w' = w.drewN q := by
  have c3 := Joins.cell_of_block hX.at_ 3
  have hm : m < 1099511627777 := by
    have h1 := hX.few.2
    have h2 := hX.parts.1
    rw [partCells_length] at h2
    obtain ⟨_, _, hh, _⟩ := own_slice hX.parts
    injection hh with _ h3 _
    omega
  simp at c3
  have c3' : w.drew.cell? ⟨bl, 3, none⟩ = some (.slice (some ⟨g, 0, none⟩) (m + 1) cap) := c3
  have hadd : (⟨g, 0, none⟩ : Addr).add (m * 3) = ⟨g, m * 3, none⟩ := by unfold Addr.add; split <;> simp_all
  have HX := Lib.hid hX; clear hX
  go_enter Tryz.func117, Tryz.ntmps117
  go_wp2_with fail
  go_region
  go_wp2_with fail
  go_ret2
  exact ⟨by simp, 1, rfl⟩
end Go.Proofs.YtnljhabpcoiihaaGreatDoor
set_option linter.all false
namespace Go.Proofs.YtnljhabpcoiihaaGreatDoor
open Go.RowKit

theorem bel_drewN {w w' : World} {q : Nat} (h : Below (w.drewN q).heap.size (w.drewN q) w') : Below w.heap.size w w' := ⟨h.os, h.tape, h.output, h.size, h.block⟩

theorem partCells_append (a b : List PartM) : partCells (a ++ b) = partCells a ++ partCells b := by simp [partCells]
/-- the last part's cells -/
theorem LogX.part {n : Nat} {w : World} {bl bd : Nat} {g cap k : Nat} {rv : Value} {vs : List Value} {G : LogM} (h : LogX n w bl bd (.slice (some ⟨g, 0, none⟩) k cap) rv vs G) {init : List PartM} {p : PartM} (hp : G.parts = init ++ [p]) :
    k = init.length + 1 ∧ n ≤ g ∧ ∃ cur, w.heap[g]? = some (.cells cur 159 (0, 0)) ∧ cap ≤ maxLen ∧ cur.size = cap * 3 ∧ init.length + 1 ≤ cap ∧ cur.toList.take ((init.length + 1) * 3) = partCells init ++ p.cells ∧
      w.cell? ⟨g, init.length * 3, none⟩ = some (.int .i64 p.frm) ∧ w.cell? ⟨g, init.length * 3 + 1, none⟩ = some (.int .i64 (p.many : Int)) ∧ w.cell? ⟨g, init.length * 3 + 2, none⟩ = some (.int .i64 (p.size : Int)) := by
  have hlen : G.parts.length = init.length + 1 := by rw [hp]; simp
  obtain ⟨hl, hh | ⟨g', cap', cur, hv, hg, hb, hn, hc, hs, ht⟩⟩ := h.parts
  · obtain ⟨h1, h2⟩ := hh; omega
  · injection hv with h1 h2 h3
    injection h1 with h1
    injection h1 with h1
    subst h1 h3
    rw [hlen] at h2 ht hn
    rw [hp, partCells_append] at ht
    have hcell : ∀ j, j < 3 → w.cell? ⟨g, init.length * 3 + j, none⟩ = p.cells[j]? := fun j hj => by
      rw [Joins.cell_of_block hb]
      have h4 : (cur.toList.take ((init.length + 1) * 3))[init.length * 3 + j]? = (partCells init ++ partCells [p])[init.length * 3 + j]? := by rw [ht]
      rw [List.getElem?_take_of_lt (by omega), List.getElem?_append_right (by rw [partCells_length]; omega), partCells_length] at h4
      rw [← Array.getElem?_toList, h4]
      simp [partCells]
    refine ⟨h2, hg, cur, hb, hc, hs, hn, ?_, hcell 0 (by omega), hcell 1 (by omega), hcell 2 (by omega)⟩
    rw [ht]; simp [partCells]

def LogM.sync (D : DiskM) (G : LogM) : DiskM × LogM × Int :=
  match G.parts.getLast? with
  | none => (D, G, 0)
  | some p => if G.dirty = false then (D, G, 0)
    else ((D.sync (Wal.fileB G.name p.frm)).1, { G with dirty := decide ((D.sync (Wal.fileB G.name p.frm)).2 ≠ 0) }, (D.sync (Wal.fileB G.name p.frm)).2)

theorem fileB_length (s : List UInt8) (k : Int) (h : s.length ≤ 1073741824) : (Wal.fileB s k).length ≤ 1073741835 := by
  unfold Wal.fileB
  split
  · simp
  · have := digits_length k.toNat 9 (by omega)
    simp; omega

/-- one cell of a log's block is written: 'dirty' -/
theorem LogX.dirt {n : Nat} {w : World} {bl bd : Nat} {pv rv : Value} {vs : List Value} {G : LogM} (h : LogX n w bl bd pv rv vs G) (d : Bool) : LogX n (w.setCell ⟨bl, 6, none⟩ (.bool d)) bl bd pv rv vs { G with dirty := d } := by
  have hother : ∀ (b : Nat) (o : Obj), w.heap[b]? = some o → tagOf o ≠ some 143 → (w.setCell ⟨bl, 6, none⟩ (.bool d)).heap[b]? = some o := fun b o hb ht =>
    heap_setCell_ne hb (by rintro rfl; rw [h.at_] at hb; cases hb; exact ht rfl)
  exact ⟨h.le, by rw [Joins.block_setCell h.at_]; rfl, own_keeps h.parts fun b o hb ht => hother b o hb (by rw [ht]; simp), own_keeps h.recs fun b o hb ht => hother b o hb (by rw [ht]; simp),
    fun k v l hv hl => (h.each k v l hv hl).keeps fun b o hb ht => hother b o hb (by rw [ht]; simp), h.few, h.fst, h.nm⟩

set_option maxRecDepth 100000 in
set_option maxHeartbeats 400000 in
theorem wsyncX_c (n bl bd : Nat) (pv rv : Value) (vs : List Value) (D : DiskM) (G : LogM) (w : World) (hD : DiskR n w bd D) (hX : LogX n w bl bd pv rv vs G) (hg : Glob n w) (hn : n ≤ w.heap.size) (hfr : ∀ p ∈ G.parts, 0 ≤ p.frm ∧ p.frm ≤ 9223372036854775807) :
    Calls Tryz.prog 87 #[.pointer (some ⟨bl, 0, none⟩)] w fun e w' =>
      e = .returned (.int .i64 (LogM.sync D G).2.2) ∧ DiskR n w' bd (LogM.sync D G).1 ∧ LogX n w' bl bd pv rv vs (LogM.sync D G).2.1 ∧ Turn n [some 86, some 91, some 143] w w' := by
  obtain ⟨S, hS⟩ : ∃ S, LogM.sync D G = S := ⟨_, rfl⟩
  rw [hS]
  unfold LogM.sync at hS
  rcases List.eq_nil_or_concat G.parts with h0 | ⟨init, p, hp⟩
  · rw [h0] at hS
    simp only [List.getLast?_nil] at hS
    have hla := last_none n bl bd G w ⟨_, _, _, hX⟩ h0
    have HA := Lib.hid (And.intro hla (And.intro hS (And.intro hD hX))); clear hla hS hD hX hg h0 hfr
    go_enter Tryz.func87, Tryz.ntmps87
    go_wp2_with (go_at_call 117; refine HA.out.1.mono ?_; rintro e w1 ⟨rfl, rfl⟩)
    go_ret
    rw [← HA.out.2.1]
    exact ⟨rfl, HA.out.2.2.1, HA.out.2.2.2, Turn.refl _ _ _⟩
  · rw [List.concat_eq_append] at hp
    have hgl : G.parts.getLast? = some p := by rw [hp]; simp
    rw [hgl] at hS
    simp only at hS
    obtain ⟨g, cap, hpv⟩ : ∃ g cap, pv = .slice (some ⟨g, 0, none⟩) (init.length + 1) cap := by
      have hlen : G.parts.length = init.length + 1 := by rw [hp]; simp
      rcases hX.parts.2 with ⟨_, h2⟩ | ⟨g, cap, _, hv, _⟩
      · omega
      · exact ⟨g, cap, by rw [hv, hlen]⟩
    subst hpv
    have hla := last_some n bl bd G g cap rv vs init.length w hX
    have hpf := hfr p (by rw [hp]; simp)
    obtain ⟨_, hng, cur, hbc, hcm, hcs, hcl, hct, d0, d1, d2⟩ := hX.part hp
    have c6 := Joins.cell_of_block hX.at_ 6
    simp at c6
    cases hd : G.dirty with
    | false =>
      rw [hd] at c6
      rw [if_pos hd] at hS
      have HA := Lib.hid (And.intro hla (And.intro hS (And.intro hD hX))); clear hla hS hD hX hg hfr hbc hct d0 d1 d2 hp hgl hcm hcs hcl
      go_enter Tryz.func87, Tryz.ntmps87
      go_wp2_with (go_at_call 117; refine HA.out.1.mono ?_; rintro e w1 ⟨rfl, q, rfl⟩; have c6' : (w.drewN q).cell? ⟨bl, 6, none⟩ = some (.bool false) := c6)
      go_ret
      rw [← HA.out.2.1]
      exact ⟨rfl, HA.out.2.2.1.keeps fun _ _ hb _ => hb, HA.out.2.2.2.keeps fun _ _ hb _ => hb, (Turn.refl _ _ _).drewN q⟩
    | true =>
      rw [hd] at c6
      rw [if_neg (by rw [hd]; simp)] at hS
      have HA := Lib.hid (And.intro hla (And.intro hS (And.intro hD (And.intro hX (And.intro hg (And.intro hp hpf)))))); clear hla hS hD hX hg hfr hbc hct d0 d1 d2 hp hgl hcm hcs hcl
      go_enter Tryz.func87, Tryz.ntmps87
      go_wp2_with (go_at_call 117; refine HA.out.1.mono ?_; rintro e w1 ⟨rfl, q, rfl⟩; have c6' : (w.drewN q).cell? ⟨bl, 6, none⟩ = some (.bool true) := c6)
      generalize hW : w.drewN q = W
      have hDW : DiskR n W bd D := by rw [← hW]; exact HA.out.2.2.1.keeps fun _ _ hb _ => hb
      have hXW : LogX n W bl bd (.slice (some ⟨g, 0, none⟩) (init.length + 1) cap) rv vs G := by rw [← hW]; exact HA.out.2.2.2.1.keeps fun _ _ hb _ => hb
      have hgW : Glob n W := by rw [← hW]; exact fun V hV => HA.out.2.2.2.2.1 V hV
      have hTW : Turn n [some 86, some 91, some 143] w W := by rw [← hW]; exact (Turn.refl _ _ _).drewN q
      have hnW : n ≤ W.heap.size := by rw [← hW]; exact hn
      clear hW c6' c6
      obtain ⟨_, _, cur, hbc, hcm, hcs, hcl, hct, d0, d1, d2⟩ := hXW.part HA.out.2.2.2.2.2.1
      have hgd : W.drew.cell? ⟨g, init.length * 3, none⟩ = some (.int .i64 p.frm) := d0
      have e0 : W.drew.cell? ⟨bl, 0, none⟩ = some (.pointer (some ⟨bd, 0, none⟩)) := by have := Joins.cell_of_block hXW.at_ 0; simpa using this
      have e1 : W.drew.cell? ⟨bl, 1, none⟩ = some (.string ⟨G.name.toArray⟩) := by have := Joins.cell_of_block hXW.at_ 1; simpa using this
      have hgl := heap_lt hbc
      have hbl := heap_lt hXW.at_
      have hfl := fileB_length G.name p.frm (by have := hXW.nm; omega)
      have hfc := file_c n G.name (by have := hXW.nm; omega) p.frm (by have := HA.out.2.2.2.2.2.2; omega) (by have := HA.out.2.2.2.2.2.2; omega) W.drew (fun V hV => hgW V hV)
      have HW := Lib.hid (And.intro hDW (And.intro hXW (And.intro hgW (And.intro hTW (And.intro hfc hfl))))); clear hDW hXW hgW hTW hfc hfl hbc hcm hcs hcl hct d0 d1 d2
      obtain ⟨FN, hFN⟩ : ∃ FN, Wal.fileB G.name p.frm = FN := ⟨_, rfl⟩
      rw [hFN] at HW
      go_region_held3 (fun w' => w'.cell? ⟨bl, 0, none⟩ = some (.pointer (some ⟨bd, 0, none⟩)) ∧ w'.cell? ⟨bl, 1, none⟩ = some (.string ⟨G.name.toArray⟩) ∧ w'.cell? ⟨g, init.length * 3, none⟩ = some (.int .i64 p.frm))
        (first
          | go_keep
          | (refine ⟨?_, ?_, ?_⟩ <;> assumption))
        (first
          | (go_at_call 89; refine HW.out.2.2.2.2.1.mono ?_; rintro e w1 ⟨rfl, hb1⟩; have k0 := (hb1.cell (p := ⟨bl, 0, none⟩) hbl).trans e0; have k1 := (hb1.cell (p := ⟨bl, 1, none⟩) hbl).trans e1; have k2 := (hb1.cell (p := ⟨g, init.length * 3, none⟩) hgl).trans hgd; have HB1 := Lib.hid hb1; clear hb1)
          | (go_at_call 119; refine (sync_c n bd D FN (by have := HW.out.2.2.2.2.2; omega) w1 (HW.out.1.below (bel_drew HB1.out))).mono ?_; rintro e w2 ⟨rfl, hR2, hT2⟩; have hX2 := (HW.out.2.1.below (bel_drew HB1.out)).keeps (KeepsL.of_turn hT2 (by simp) (by simp) (by simp) (by simp)); have m0 := Joins.cell_of_block hX2.at_ 0; have m1 := Joins.cell_of_block hX2.at_ 1; have m2 := (hX2.part HA.out.2.2.2.2.2.1).2.2; simp at m0 m1; obtain ⟨_, _, _, _, _, _, m2, _⟩ := m2; have H2 := Lib.hid (And.intro hR2 (And.intro hT2 hX2)); clear hR2 hT2 hX2))
      have m6 := Joins.cell_of_block H2.out.2.2.at_ 6
      have g6 := Joins.unfrozen_of_block H2.out.2.2.at_ 6
      simp at m6
      go_wp2_with fail
      go_ret
      have hS := HA.out.2.1
      rw [hFN] at hS
      rw [← hS]
      have hbn : ((D.sync FN).2 != 0) = decide ((D.sync FN).2 ≠ 0) := by rw [Bool.eq_iff_iff]; simp
      rw [hbn]
      obtain ⟨hR2, hT2, hX2⟩ := H2.out
      have hT3 : Turn n [some 86, some 91, some 143] w w2 := ((HW.out.2.2.2.1).bel (bel_drew HB1.out)).trans (hT2.mono (Nat.le_refl _) (by simp))
      refine ⟨rfl, hR2.keeps fun b o hb ht => heap_setCell_ne hb (by rintro rfl; rw [hX2.at_] at hb; cases hb; revert ht; simp [tagOf]), hX2.dirt _, hT3.setCell hX2.at_ hX2.le (by simp) _ _⟩

theorem wsync_c (n bl bd : Nat) (D : DiskM) (G : LogM) (w : World) (hD : DiskR n w bd D) (hL : LogR n w bl bd G) (hg : Glob n w) (hn : n ≤ w.heap.size) (hfr : ∀ p ∈ G.parts, 0 ≤ p.frm ∧ p.frm ≤ 9223372036854775807) :
    Calls Tryz.prog 87 #[.pointer (some ⟨bl, 0, none⟩)] w fun e w' =>
      e = .returned (.int .i64 (LogM.sync D G).2.2) ∧ DiskR n w' bd (LogM.sync D G).1 ∧ LogR n w' bl bd (LogM.sync D G).2.1 ∧ Turn n [some 86, some 91, some 143] w w' := by
  obtain ⟨pv, rv, vs, hX⟩ := hL
  exact (wsyncX_c n bl bd pv rv vs D G w hD hX hg hn hfr).mono fun e w' h => ⟨h.1, h.2.1, ⟨pv, rv, vs, h.2.2.1⟩, h.2.2.2⟩

def LogM.get (G : LogM) (k : Int) : Option (List UInt8) := if k < G.first ∨ G.fin ≤ k then none else G.recs[(k - G.first).toNat]?

set_option maxRecDepth 100000 in
set_option maxHeartbeats 400000 in
theorem get_c (n bl bd : Nat) (G : LogM) (k : Int) (hk0 : -4611686018427387904 ≤ k) (hk1 : k ≤ 4611686018427387904) (w : World) (hL : LogR n w bl bd G) (hsz : ∀ l ∈ G.recs, l.length ≤ 140737488355328) :
    Calls Tryz.prog 47 #[.pointer (some ⟨bl, 0, none⟩), .int .i64 k] w fun e w' =>
      ∃ v, e = .returned (.tuple #[v, .int .i64 (if (LogM.get G k).isSome then 0 else 33)]) ∧ Bs 5 w' v ((LogM.get G k).getD []) ∧ Below w.heap.size w w' := by
  have hE := end_c n bl bd G w hL
  obtain ⟨pv, rv, vs, hX⟩ := hL
  have c4 := Joins.cell_of_block hX.at_ 4
  have c5 := Joins.cell_of_block hX.at_ 5
  obtain ⟨A, cap, rfl, _, _, _⟩ := own_slice hX.recs
  simp at c4 c5
  obtain ⟨R, hR⟩ : ∃ R, LogM.get G k = R := ⟨_, rfl⟩
  rw [hR]
  unfold LogM.get at hR
  by_cases h1 : k < G.first
  · rw [if_pos (.inl h1)] at hR
    subst hR
    clear hX hE hsz
    go_enter Tryz.func47, Tryz.ntmps47
    go_wp2
    go_ret2
    exact ⟨_, rfl, Bs.nil _ _, Below.refl _ _⟩
  obtain ⟨FI, hFI⟩ : ∃ F, G.fin = F := ⟨_, rfl⟩
  rw [hFI] at hE hR
  by_cases h2 : FI ≤ k
  · rw [if_pos (.inr h2)] at hR
    subst hR
    have HE := Lib.hid hE; clear hE hX hsz hFI
    go_enter Tryz.func47, Tryz.ntmps47
    go_wp2_with (go_at_call 46; refine HE.out.mono ?_; rintro e w1 ⟨rfl, q, rfl⟩)
    go_ret2
    exact ⟨_, rfl, Bs.nil _ _, (Below.refl _ w).trans ⟨rfl, rfl, rfl, Nat.le_refl _, fun _ _ => rfl⟩⟩
  · rw [if_neg (by omega)] at hR
    obtain ⟨i, hi⟩ : ∃ i : Nat, k - G.first = (i : Int) := ⟨(k - G.first).toNat, by omega⟩
    have hil : i < G.recs.length := by unfold LogM.fin at hFI; omega
    rw [hi, Int.toNat_natCast, List.getElem?_eq_getElem hil] at hR
    have hvl := hX.vlen
    have hiv : i < vs.length := by omega
    obtain ⟨b, o, hA, hcell⟩ := (Rd.of_own hX.recs).addr (by omega)
    have q0 := hcell i hiv
    clear hcell
    subst hA
    obtain ⟨v, hv⟩ : ∃ v, vs[i]? = some v := ⟨_, List.getElem?_eq_getElem hiv⟩
    obtain ⟨l, hl⟩ : ∃ l, G.recs[i]? = some l := ⟨_, List.getElem?_eq_getElem hil⟩
    rw [hv] at q0
    have hbs := hX.each i v l hv hl
    have hll : l.length ≤ 140737488355328 := hsz l (List.mem_of_getElem? hl)
    have hRl : R = some l := by
      rw [← hR]
      rw [List.getElem?_eq_getElem hil] at hl
      exact hl
    subst hRl
    have hbs0 := hbs
    obtain ⟨A1, c1, rfl, _, _, _⟩ := hbs
    obtain ⟨F, hF⟩ : ∃ F, G.first = F := ⟨_, rfl⟩
    have hfst := hX.fst
    rw [hF] at c5 hi h1 hfst
    have hw : wrap64 (k - F) = (i : Int) := by rw [hi]; exact wrap_id _ (by omega) (by have := hX.few.1; omega)
    have hw2 : IntKind.i64.wrap (i : Int) = (i : Int) := IntWalk.i64_in _ (by have := hX.few.1; omega)
    obtain ⟨RL, hRL⟩ : ∃ R, G.recs.length = R := ⟨_, rfl⟩
    rw [hRL] at c4 hil
    have HE := Lib.hid (And.intro hE (And.intro hbs0 (And.intro hll hw2))); clear hE hw2 hX hsz hFI hbs0 hvl hiv hv hl hR hF
    go_enter Tryz.func47, Tryz.ntmps47
    go_wp2_with (go_at_call 46; refine HE.out.1.mono ?_; rintro e w1 ⟨rfl, q, rfl⟩; have c4' : (w.drewN q).cell? ⟨bl, 4, none⟩ = some (.slice (some ⟨b, o, none⟩) RL cap) := c4; have c5' : (w.drewN q).cell? ⟨bl, 5, none⟩ = some (.int .i64 F) := c5; have q0' : (w.drewN q).cell? ⟨b, o + i, none⟩ = some (.slice A1 l.length c1) := q0)
    generalize hW : w.drewN q = W at c4' c5' q0'
    have hw2 := HE.out.2.2.2
    have hw3 : IntKind.i64.wrap (k - F) = (i : Int) := by rw [hi]; exact hw2
    have u4 : W.drew.cell? ⟨bl, 4, none⟩ = some (.slice (some ⟨b, o, none⟩) RL cap) := c4'
    have u5 : W.drew.cell? ⟨bl, 5, none⟩ = some (.int .i64 F) := c5'
    have u0 : W.drew.cell? ⟨b, o + i, none⟩ = some (.slice A1 l.length c1) := q0'
    have hbs1 : Bs 5 W.drew (.slice A1 l.length c1) l := by rw [← hW]; exact HE.out.2.1.keeps fun _ _ hb _ => hb
    have hrr := hbs1.toR.rd
    have hcl := bclone_c A1 l.length c1 l rfl W.drew HE.out.2.2.1 hrr
    have HC := Lib.hid (And.intro hcl hW); clear hcl hrr hbs1 hW
    have hbl := cell_lt u4
    have hbb := cell_lt u0
    clear c4 c5 q0 c4' c5' q0'
    go_region_held3 (fun w' => w'.cell? ⟨bl, 4, none⟩ = some (.slice (some ⟨b, o, none⟩) RL cap) ∧ w'.cell? ⟨bl, 5, none⟩ = some (.int .i64 F) ∧ w'.cell? ⟨b, o + i, none⟩ = some (.slice A1 l.length c1))
      (first
        | go_keep
        | (refine ⟨?_, ?_, ?_⟩ <;> assumption))
      (first
        | (go_at_call 55; refine HC.out.1.mono ?_; rintro e w1 ⟨v1, rfl, hown1, hb1⟩; have k0 := (hb1.cell (p := ⟨bl, 4, none⟩) hbl).trans u4; have k1 := (hb1.cell (p := ⟨bl, 5, none⟩) hbl).trans u5; have k2 := (hb1.cell (p := ⟨b, o + i, none⟩) hbb).trans u0; have HB1 := Lib.hid (And.intro hown1 hb1); clear hown1 hb1))
    go_wp2_with fail
    go_ret2
    refine ⟨_, rfl, Bs.of_own HB1.out.1, ?_⟩
    have hb := bel_drew HB1.out.2
    rw [← HC.out.2] at hb
    exact bel_drewN hb
end Go.Proofs.YtnljhabpcoiihaaGreatDoor
