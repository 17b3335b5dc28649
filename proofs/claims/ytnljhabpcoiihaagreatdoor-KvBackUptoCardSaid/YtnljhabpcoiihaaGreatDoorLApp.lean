/- A log's Append. -/
import Derived.Test.YtnljhabpcoiihaaGreatDoorLogU
import Derived.Test.YtnljhabpcoiihaaGreatDoorByt
import Derived.Test.YtnljhabpcoiihaaGreatDoorApp
import Derived.Test.YtnljhabpcoiihaaGreatDoorNext
import Derived.Deep.CutBlock
set_option linter.all false
namespace Go.Proofs.YtnljhabpcoiihaaGreatDoor
open Go.RowKit

def LogM.lay (D : DiskM) (G : LogM) (p : Option PartM) (next : PartM) (b : List UInt8) : DiskM × LogM × Int :=
  if (D.append (Wal.fileB G.name next.frm) (Wal.frameB b)).2 ≠ 0 then ((D.append (Wal.fileB G.name next.frm) (Wal.frameB b)).1, G, (D.append (Wal.fileB G.name next.frm) (Wal.frameB b)).2)
  else ((D.append (Wal.fileB G.name next.frm) (Wal.frameB b)).1,
    { G with parts := if p.any (fun q => decide (next.frm = q.frm)) then G.parts.dropLast ++ [⟨next.frm, next.many + 1, next.size + (12 + b.length)⟩] else G.parts ++ [⟨next.frm, next.many + 1, next.size + (12 + b.length)⟩], recs := G.recs ++ [b], dirty := true }, 0)
def LogM.append (D : DiskM) (G : LogM) (b : List UInt8) : DiskM × LogM × Int :=
  if 65536 < b.length then (D, G, 3)
  else match G.parts.getLast? with
    | none => LogM.lay D G none ⟨G.fin, 0, 0⟩ b
    | some p => if (p.size : Int) < G.most then LogM.lay D G (some p) p b
      else if (LogM.sync D G).2.2 ≠ 0 then ((LogM.sync D G).1, (LogM.sync D G).2.1, (LogM.sync D G).2.2)
      else LogM.lay (LogM.sync D G).1 (LogM.sync D G).2.1 (some p) ⟨G.fin, 0, 0⟩ b

/-- the types that Append writes -/
abbrev TAp : List (Option TypeId) := [some 86, none, some 91, some 143, some 159, some 29]

def lastP (pv : Value) (k : Nat) : Option Addr :=
  match pv with
  | .slice (some a) _ _ => if k = 0 then none else some ⟨a.block, (k - 1) * 3, none⟩
  | _ => none

theorem last_c (n bl bd : Nat) (G : LogM) (pv rv : Value) (vs : List Value) (w : World) (hX : LogX n w bl bd pv rv vs G) :
    Calls Tryz.prog 117 #[.pointer (some ⟨bl, 0, none⟩)] w fun e w' => e = .returned (.tuple #[.pointer (lastP pv G.parts.length), .bool (decide (G.parts ≠ []))]) ∧ ∃ q, w' = w.drewN q := by
  by_cases h0 : G.parts = []
  · refine (last_none n bl bd G w ⟨_, _, _, hX⟩ h0).mono ?_
    rintro e w' ⟨rfl, rfl⟩
    refine ⟨?_, 0, rfl⟩
    rw [h0]
    have : lastP pv ([] : List PartM).length = none := by unfold lastP; split <;> simp
    rw [this]
    simp
  · obtain ⟨m, hm⟩ : ∃ m, G.parts.length = m + 1 := ⟨G.parts.length - 1, by have := List.length_pos_iff.2 h0; omega⟩
    rcases hX.parts.2 with ⟨_, h2⟩ | ⟨g, cap, cur, hv, _⟩
    · omega
    · subst hv
      rw [hm] at hX ⊢
      refine (last_some n bl bd G g cap rv vs m w hX).mono ?_
      rintro e w' ⟨rfl, h⟩
      refine ⟨?_, h⟩
      simp [lastP, h0]
/-- .. without the records' row -/
abbrev TA0 : List (Option TypeId) := [some 86, none, some 91, some 143, some 159]
theorem ta0_sub {t : Option TypeId} (h : t ∉ TAp) : t ∉ TA0 := by
  simp only [TAp, TA0, List.mem_cons, List.not_mem_nil, or_false, not_or] at h ⊢
  exact ⟨h.1, h.2.1, h.2.2.1, h.2.2.2.1, h.2.2.2.2.1⟩
/-- how Append ends: which rows it leaves alone, too -/
def AppX (n bl bd : Nat) (rv : Value) (w : World) (R : DiskM × LogM × Int) (e : Ending) (w' : World) : Prop :=
  e = .returned (.int .i64 R.2.2) ∧ DiskR n w' bd R.1 ∧ (∃ pv' rv' vs', LogX n w' bl bd pv' rv' vs' R.2.1 ∧ (rv'.ownBlock = rv.ownBlock ∨ ∃ g, rv'.ownBlock = some g ∧ w.heap.size ≤ g)) ∧ Turn n TAp w w' ∧
    (∀ (x : Nat) (o : Obj), w.heap[x]? = some o → tagOf o = some 29 → rv.ownBlock ≠ some x → w'.heap[x]? = some o) ∧ MapK R.1.mp w w'
theorem AppX.of0 {n bl bd : Nat} {pv' rv : Value} {vs' : List Value} {w w' : World} {R : DiskM × LogM × Int} {e : Ending} (h1 : e = .returned (.int .i64 R.2.2)) (hD : DiskR n w' bd R.1) (hX : LogX n w' bl bd pv' rv vs' R.2.1) (hT : Turn n TA0 w w') (hM : MapK R.1.mp w w') : AppX n bl bd rv w R e w' :=
  ⟨h1, hD, ⟨_, _, _, hX, .inl rfl⟩, hT.mono (Nat.le_refl _) (by intro t ht; simp only [TA0, TAp, List.mem_cons, List.not_mem_nil, or_false] at ht ⊢; rcases ht with h | h | h | h | h <;> simp [h]), fun x o hx ht _ => hT.block x o hx (.inr (by rw [ht]; simp)), hM⟩
theorem lay_mp (D : DiskM) (G : LogM) (p : Option PartM) (nx : PartM) (b : List UInt8) : (LogM.lay D G p nx b).1.mp = D.mp := by
  unfold LogM.lay
  split
  · exact append_mp _ _ _
  · exact append_mp _ _ _

/-- between the choice of the file and the laying -/
def Mid (n bl bd z : Nat) (pv rv : Value) (vs : List Value) (G : LogM) (b : List UInt8) (v : Value) (RS : DiskM × LogM × Int) (w w' : World) : Prop :=
  ∃ D' dty next, LogM.lay D' { G with dirty := dty } G.parts.getLast? next b = RS ∧ DiskR n w' bd D' ∧ LogX n w' bl bd pv rv vs { G with dirty := dty } ∧
    w'.heap[z]? = some (.cells #[.int .i64 next.frm, .int .i64 (next.many : Int), .int .i64 (next.size : Int)] 159 (0, 0)) ∧ Turn n TA0 w w' ∧ MapK RS.1.mp w w' ∧
    (0 ≤ next.frm ∧ next.frm ≤ 9223372036854775807) ∧ next.many ≤ 1099511627776 ∧ next.size ≤ 1099511627776

theorem LogX.drw {n : Nat} {w : World} {bl bd : Nat} {pv rv : Value} {vs : List Value} {G : LogM} (h : LogX n w bl bd pv rv vs G) (q : Nat) : LogX n (w.drewN q) bl bd pv rv vs G := h.keeps fun _ _ hb _ => hb
theorem Mid.drew {n bl bd z : Nat} {pv rv : Value} {vs : List Value} {G : LogM} {b : List UInt8} {v : Value} {RS : DiskM × LogM × Int} {w w' : World} (h : Mid n bl bd z pv rv vs G b v RS w w') : Mid n bl bd z pv rv vs G b v RS w w'.drew := by
  obtain ⟨D', dty, next, h1, h2, h3, h4, h5, h6, h7⟩ := h
  exact ⟨D', dty, next, h1, h2.keeps fun _ _ hb _ => hb, h3.keeps fun _ _ hb _ => hb, h4, h5.drew, h6, h7⟩
/-- a block of a part that is not among the parts is written -/
theorem LogX.keepZ {n z : Nat} {w w' : World} {bl bd : Nat} {pv rv : Value} {vs : List Value} {G : LogM} {c : Array Value} {f : Nat × Nat} (h : LogX n w bl bd pv rv vs G) (hz : w.heap[z]? = some (.cells c 159 f)) (hp : pv.ownBlock ≠ some z)
    (hk : ∀ (b : Nat) (o : Obj), w.heap[b]? = some o → b ≠ z → w'.heap[b]? = some o) : LogX n w' bl bd pv rv vs G :=
  ⟨h.le, hk _ _ h.at_ (by rintro rfl; rw [h.at_] at hz; simp at hz), own_keep h.parts fun b o hb hv _ => hk b o hb (fun e => hp (by rw [hv, e])),
    own_keeps h.recs fun b o hb ht => hk b o hb (by rintro rfl; rw [hz] at hb; cases hb; simp [tagOf] at ht),
    fun k v l hv hl => (h.each k v l hv hl).keeps fun b o hb ht => hk b o hb (by rintro rfl; rw [hz] at hb; cases hb; simp [tagOf] at ht), h.few, h.fst, h.nm⟩
/-- bytes that lie before n, or in a block of bytes -/
def Bn (n : Nat) (w : World) (v : Value) (l : List UInt8) : Prop :=
  ∃ A cap, v = .slice A l.length cap ∧ l.length ≤ cap ∧ cap ≤ maxLen ∧ (l = [] ∨ ∃ b o c t f, A = some ⟨b, o, none⟩ ∧ w.heap[b]? = some (.cells c t f) ∧ (b < n ∨ t = 5) ∧ ∀ k, k < l.length → c[o + k]? = (bytesV l)[k]?)
theorem Bs.bn {w : World} {v : Value} {l : List UInt8} (h : Bs 5 w v l) (n : Nat) : Bn n w v l := by
  obtain ⟨A, cap, rfl, hc, hm, hl | ⟨b, o, c, f, rfl, hb, hk⟩⟩ := h
  · exact ⟨A, cap, rfl, hc, hm, .inl hl⟩
  · exact ⟨_, cap, rfl, hc, hm, .inr ⟨b, o, c, _, f, rfl, hb, .inr rfl, hk⟩⟩
theorem Bn.turn {n : Nat} {w w' : World} {v : Value} {l : List UInt8} (h : Bn n w v l) {T : List (Option TypeId)} (ht : Turn n T w w') (hT : some 5 ∉ T) : Bn n w' v l := by
  obtain ⟨A, cap, rfl, hc, hm, hl | ⟨b, o, c, t, f, rfl, hb, hbt, hk⟩⟩ := h
  · exact ⟨A, cap, rfl, hc, hm, .inl hl⟩
  · exact ⟨_, cap, rfl, hc, hm, .inr ⟨b, o, c, t, f, rfl, ht.block b _ hb (hbt.imp id fun e => by subst e; exact hT), hbt, hk⟩⟩
theorem Bn.low {n : Nat} {w w' : World} {v : Value} {l : List UInt8} (h : Bn n w v l) (hn : w.heap.size = n) (hB : Below n w w') : Bn n w' v l := by
  obtain ⟨A, cap, rfl, hc, hm, hl | ⟨b, o, c, t, f, rfl, hb, hbt, hk⟩⟩ := h
  · exact ⟨A, cap, rfl, hc, hm, .inl hl⟩
  · have hlt := heap_lt hb
    exact ⟨_, cap, rfl, hc, hm, .inr ⟨b, o, c, t, f, rfl, (hB.block b (by omega)).trans hb, .inl (by omega), hk⟩⟩
theorem Bn.slice {n : Nat} {w : World} {v : Value} {l : List UInt8} (h : Bn n w v l) : ∃ A cap, v = .slice A l.length cap := by
  obtain ⟨A, cap, rfl, _⟩ := h
  exact ⟨A, cap, rfl⟩
theorem Bn.rd {n : Nat} {w : World} {A : Option Addr} {m cap : Nat} {l : List UInt8} (h : Bn n w (.slice A m cap) l) : Rd 0 w A (bytesV l) := by
  obtain ⟨A', cap', hv, hc, hm, hl | ⟨b, o, c, t, f, rfl, hb, hbt, hk⟩⟩ := h
  · subst hl; exact Rd.nil _ _ _
  · injection hv with h1 h2 h3
    subst h1
    refine .inr ⟨b, o, Nat.zero_le _, rfl, fun k hk' => ?_⟩
    rw [bytesV_length] at hk'
    simp only [World.cell?, hb]
    exact hk k hk'
theorem Bn.le {n : Nat} {w : World} {A : Option Addr} {m cap : Nat} {l : List UInt8} (h : Bn n w (.slice A m cap) l) : l.length ≤ cap := by
  obtain ⟨A', cap', hv, hc, _⟩ := h
  injection hv with h1 h2 h3
  omega
theorem Bs.rd {w : World} {A : Option Addr} {n cap : Nat} {l : List UInt8} (h : Bs 5 w (.slice A n cap) l) : Rd 0 w A (bytesV l) ∧ n = l.length ∧ l.length ≤ cap := by
  obtain ⟨A', cap', hh, hc, hr⟩ := h.toR
  injection hh with h1 h2 h3
  subst h1 h2 h3
  exact ⟨hr, rfl, hc⟩
theorem frameB_length (b : List UInt8) : (Wal.frameB b).length = 12 + b.length := by
  unfold Wal.frameB
  simp [Wal.fourB]
  try omega
theorem sync_shape (D : DiskM) (G : LogM) : ∃ d, (LogM.sync D G).2.1 = { G with dirty := d } := by
  unfold LogM.sync
  split
  · exact ⟨G.dirty, rfl⟩
  · split
    · exact ⟨G.dirty, rfl⟩
    · exact ⟨_, rfl⟩

set_option maxRecDepth 100000 in
set_option maxHeartbeats 800000 in
theorem wappX_c (n bl bd : Nat) (D : DiskM) (G : LogM) (b : List UInt8) (v : Value) (w : World) (hD : DiskR n w bd D) (pv rv : Value) (vs : List Value) (hX : LogX n w bl bd pv rv vs G) (hg : Glob n w) (hn : n ≤ w.heap.size) (hb : Bn n w v b)
    (hfr : ∀ p ∈ G.parts, (0 ≤ p.frm ∧ p.frm ≤ 9223372036854775807) ∧ p.many ≤ 1099511627776 ∧ p.size ≤ 1099511627776) (hfew : G.recs.length ≤ 549755813888 ∧ G.parts.length ≤ 549755813888) :
    Calls Tryz.prog 86 #[.pointer (some ⟨bl, 0, none⟩), v] w (AppX n bl bd rv w (LogM.append D G b)) := by
  obtain ⟨RS, hRS⟩ : ∃ R, LogM.append D G b = R := ⟨_, rfl⟩
  rw [hRS]
  unfold LogM.append at hRS
  obtain ⟨A, cap, hv, hcap, hcm, hbl⟩ := id hb
  subst hv
  have H0 := Lib.hid (And.intro hD (And.intro hX (And.intro hg (And.intro hn (And.intro hb (And.intro hfr (And.intro hcap hcm)))))))
  have HR := Lib.hid hRS
  clear hD hX hg hn hb hfr hRS hbl hcm hcap
  by_cases h6 : 65536 < b.length
  · have h6' : (65536 : Int) < (b.length : Int) := by omega
    go_enter Tryz.func86, Tryz.ntmps86
    go_wp2
    go_ret
    have := HR.out
    rw [if_pos h6] at this
    rw [← this]
    exact AppX.of0 rfl H0.out.1 H0.out.2.1 (Turn.refl _ _ _) (fun x o hx _ _ => hx)
  · have h6' : ¬ (65536 : Int) < (b.length : Int) := by omega
    have hR := HR.out
    rw [if_neg h6] at hR
    have HR2 := Lib.hid hR; clear hR
    go_enter Tryz.func86, Tryz.ntmps86
    go_upto_block 0 with (first
      | (go_at_call 46; refine (end_c n bl bd G w ⟨_, _, _, H0.out.2.1⟩).mono ?_; rintro e w1 ⟨rfl, q1, hq1⟩; have HQ1 := Lib.hid hq1; clear hq1)
      | (go_at_call 117; refine (last_c n bl bd G pv rv vs _ ((H0.out.2.1.keeps (w' := w1) (fun b o hb _ => by rw [HQ1.out]; exact hb)).below (bnew w1 _))).mono ?_; rintro e w3 ⟨rfl, q3, hq3⟩; have HQ3 := Lib.hid hq3; clear hq3))
    obtain ⟨z, hz⟩ : ∃ z, w1.heap.size = z := ⟨_, rfl⟩
    have hzw : z = w.heap.size := by rw [← hz, HQ1.out]; rfl
    have hw3 : ∀ (x : Nat) (o : Obj), w.heap[x]? = some o → w3.heap[x]? = some o := fun x o hx => by
      rw [HQ3.out]
      exact (Below.heap_alloc w1 _ _ (by have := heap_lt hx; omega)).trans (by rw [HQ1.out]; exact hx)
    have hz3 : w3.heap[z]? = some (.cells #[.int .i64 G.fin, .int .i64 0, .int .i64 0] 159 (0, 0)) := by
      rw [HQ3.out, ← hz]; exact heap_alloc_new w1 _
    have hT3 : Turn n TA0 w w3 := ⟨by rw [HQ3.out, HQ1.out]; rfl, by rw [HQ3.out, HQ1.out]; rfl, by rw [HQ3.out, HQ1.out]; rfl, by rw [HQ3.out, HQ1.out]; simp [World.drewN], fun x o hx _ => hw3 x o hx⟩
    have hX3 := H0.out.2.1.keeps (w' := w3) (fun x o hx _ => hw3 x o hx)
    have hD3 := H0.out.1.keeps (w' := w3) (fun x o hx _ => hw3 x o hx)
    have hb3 : ∀ m, MapK m w w3 := fun m x o hx _ _ => hw3 x o hx
    have hs3 : w3.heap.size = z + 1 := by rw [HQ3.out, ← hz]; simp [World.drewN]
    have hfin : 0 ≤ G.fin ∧ G.fin ≤ 9223372036854775807 := by
      have h1 := H0.out.2.1.fst
      have h2 := hfew.1
      unfold LogM.fin
      omega
    rw [hz]
    have H3 := Lib.hid (And.intro hD3 (And.intro hX3 (And.intro hz3 (And.intro hT3 (And.intro hb3 (And.intro hs3 (And.intro hfin hzw)))))))
    clear hz hzw hw3 hz3 hT3 hX3 hD3 hb3 hs3 hfin
    go_cut [6, 7, 8] from 8 (fun s6 s7 s8 w' => (s6 = .pointer (lastP pv G.parts.length) ∧ s7 = .bool (decide (G.parts ≠ []))) ∧ Mid n bl bd z pv rv vs G b (.slice A b.length cap) RS w w')
    case first =>
      rcases List.eq_nil_or_concat G.parts with h0 | ⟨init, p, hp⟩
      · have hlp : lastP pv G.parts.length = none := by rw [h0]; unfold lastP; split <;> simp
        have hdc : (decide (G.parts = [])) = true := by simp [h0]
        rw [hlp, hdc]
        have HP := Lib.hid (And.intro h0 hlp)
        clear h0 hlp hdc
        go_wp2_with fail
        refine wp_region_held_drew (S := fun _ => True) (by kernel_rfl) trivial (fun _ => ?_)
        refine wpAnyH_take (i := 0) (v := ?_) rfl (by kernel_rfl) (by kernel_rfl) (by kernel_rfl) (fun _ _ _ h => h) (Or.inl ⟨by rfl, ?_⟩) trivial ?_
        rotate_left
        · (intro w _; go_simp <;> with_reducible rfl)
        simp only [Act.put, List.getElem_toArray, List.getElem_cons_zero, List.getElem_cons_succ, List.setIfInBounds_toArray, List.set_cons_zero, List.set_cons_succ]
        refine wpAnyH_take (i := 1) (v := ?_) rfl (by kernel_rfl) (by kernel_rfl) (by kernel_rfl) (fun _ _ _ h => h) (Or.inl ⟨by rfl, ?_⟩) trivial ?_
        rotate_left
        · (intro w _; go_simp <;> with_reducible rfl)
        simp only [Act.put, List.getElem_toArray, List.getElem_cons_zero, List.getElem_cons_succ, List.setIfInBounds_toArray, List.set_cons_zero, List.set_cons_succ]
        refine wpAnyH_take (i := 2) (v := undef) rfl (by kernel_rfl) (by kernel_rfl) (by kernel_rfl) (fun _ _ _ h => h) (Or.inr ⟨by rfl, rfl⟩) trivial ?_
        simp only [Act.put, List.getElem_toArray, List.getElem_cons_zero, List.getElem_cons_succ, List.setIfInBounds_toArray, List.set_cons_zero, List.set_cons_succ]
        refine wpAnyH_take (i := 3) (v := undef) rfl (by kernel_rfl) (by kernel_rfl) (by kernel_rfl) (fun _ _ _ h => h) (Or.inr ⟨by rfl, rfl⟩) trivial ?_
        simp only [Act.put, List.getElem_toArray, List.getElem_cons_zero, List.getElem_cons_succ, List.setIfInBounds_toArray, List.set_cons_zero, List.set_cons_succ]
        refine wpAnyH_take (i := 4) (v := undef) rfl (by kernel_rfl) (by kernel_rfl) (by kernel_rfl) (fun _ _ _ h => h) (Or.inr ⟨by rfl, rfl⟩) trivial ?_
        simp only [Act.put, List.getElem_toArray, List.getElem_cons_zero, List.getElem_cons_succ, List.setIfInBounds_toArray, List.set_cons_zero, List.set_cons_succ]
        refine wpAnyH_take (i := 5) (v := undef) rfl (by kernel_rfl) (by kernel_rfl) (by kernel_rfl) (fun _ _ _ h => h) (Or.inr ⟨by rfl, rfl⟩) trivial ?_
        simp only [Act.put, List.getElem_toArray, List.getElem_cons_zero, List.getElem_cons_succ, List.setIfInBounds_toArray, List.set_cons_zero, List.set_cons_succ]
        refine wpAnyH_take (i := 6) (v := undef) rfl (by kernel_rfl) (by kernel_rfl) (by kernel_rfl) (fun _ _ _ h => h) (Or.inr ⟨by rfl, rfl⟩) trivial ?_
        simp only [Act.put, List.getElem_toArray, List.getElem_cons_zero, List.getElem_cons_succ, List.setIfInBounds_toArray, List.set_cons_zero, List.set_cons_succ]
        refine wpAnyH_take (i := 7) (v := undef) rfl (by kernel_rfl) (by kernel_rfl) (by kernel_rfl) (fun _ _ _ h => h) (Or.inr ⟨by rfl, rfl⟩) trivial ?_
        simp only [Act.put, List.getElem_toArray, List.getElem_cons_zero, List.getElem_cons_succ, List.setIfInBounds_toArray, List.set_cons_zero, List.set_cons_succ]
        refine wpAnyH_take (i := 8) (v := undef) rfl (by kernel_rfl) (by kernel_rfl) (by kernel_rfl) (fun _ _ _ h => h) (Or.inr ⟨by rfl, rfl⟩) trivial ?_
        simp only [Act.put, List.getElem_toArray, List.getElem_cons_zero, List.getElem_cons_succ, List.setIfInBounds_toArray, List.set_cons_zero, List.set_cons_succ]
        refine wpAnyH_take (i := 9) (v := undef) rfl (by kernel_rfl) (by kernel_rfl) (by kernel_rfl) (fun _ _ _ h => h) (Or.inr ⟨by rfl, rfl⟩) trivial ?_
        simp only [Act.put, List.getElem_toArray, List.getElem_cons_zero, List.getElem_cons_succ, List.setIfInBounds_toArray, List.set_cons_zero, List.set_cons_succ]
        refine wpAnyH_take (i := 10) (v := undef) rfl (by kernel_rfl) (by kernel_rfl) (by kernel_rfl) (fun _ _ _ h => h) (Or.inr ⟨by rfl, rfl⟩) trivial ?_
        simp only [Act.put, List.getElem_toArray, List.getElem_cons_zero, List.getElem_cons_succ, List.setIfInBounds_toArray, List.set_cons_zero, List.set_cons_succ]
        refine wpAnyH_take (i := 11) (v := ?_) rfl (by kernel_rfl) (by kernel_rfl) (by kernel_rfl) (fun _ _ _ h => h) (Or.inl ⟨by rfl, ?_⟩) trivial ?_
        rotate_left
        · (intro w _; go_simp <;> with_reducible rfl)
        simp only [Act.put, List.getElem_toArray, List.getElem_cons_zero, List.getElem_cons_succ, List.setIfInBounds_toArray, List.set_cons_zero, List.set_cons_succ]
        refine wpAnyH_take (i := 12) (v := ?_) rfl (by kernel_rfl) (by kernel_rfl) (by kernel_rfl) (fun _ _ _ h => h) (Or.inl ⟨by rfl, ?_⟩) trivial ?_
        rotate_left
        · (intro w _; go_simp <;> with_reducible rfl)
        simp only [Act.put, List.getElem_toArray, List.getElem_cons_zero, List.getElem_cons_succ, List.setIfInBounds_toArray, List.set_cons_zero, List.set_cons_succ]
        refine wpAnyH_done (by kernel_rfl) ?_ _
        go_wp2_with fail
        go_meet
        case rel =>
          have hR := HR2.out
          have hgl : G.parts.getLast? = none := by rw [HP.out.1]; rfl
          rw [hgl] at hR
          refine ⟨⟨by rw [HP.out.2], by simp [HP.out.1]⟩, Mid.drew ⟨D, G.dirty, ⟨G.fin, 0, 0⟩, ?_, H3.out.1, H3.out.2.1, H3.out.2.2.1, H3.out.2.2.2.1, H3.out.2.2.2.2.1 _, H3.out.2.2.2.2.2.2.1, Nat.zero_le _, Nat.zero_le _⟩⟩
          rw [hgl]
          exact hR
      · rw [List.concat_eq_append] at hp
        obtain ⟨g, cp, hpv⟩ : ∃ g cp, pv = .slice (some ⟨g, 0, none⟩) (init.length + 1) cp := by
          have hlen : G.parts.length = init.length + 1 := by rw [hp]; simp
          rcases H0.out.2.1.parts.2 with ⟨_, h2⟩ | ⟨g, cp, _, hv, _⟩
          · omega
          · exact ⟨g, cp, by rw [hv, hlen]⟩
        subst hpv
        have hlp : lastP (.slice (some ⟨g, 0, none⟩) (init.length + 1) cp) G.parts.length = some ⟨g, init.length * 3, none⟩ := by rw [hp]; simp [lastP]
        have hdc : (decide (G.parts = [])) = false := by simp [hp]
        have hgl : G.parts.getLast? = some p := by rw [hp]; simp
        obtain ⟨_, hng, cur, hbc, hcm, hcs, hcl, hct, d0, d1, d2⟩ := H3.out.2.1.part hp
        have c2 := Joins.cell_of_block H3.out.2.1.at_ 2
        have zc0 := Joins.cell_of_block H3.out.2.2.1 0
        have zc1 := Joins.cell_of_block H3.out.2.2.1 1
        have zc2 := Joins.cell_of_block H3.out.2.2.1 2
        have zf0 := Joins.unfrozen_of_block H3.out.2.2.1 0
        have zf1 := Joins.unfrozen_of_block H3.out.2.2.1 1
        have zf2 := Joins.unfrozen_of_block H3.out.2.2.1 2
        simp at c2 zc0 zc1 zc2
        rw [hlp, hdc]
        have hpf := H0.out.2.2.2.2.2.1 p (by rw [hp]; simp)
        have hR := HR2.out
        rw [hgl] at hR
        simp only at hR
        have HP := Lib.hid (And.intro hp (And.intro hlp (And.intro hgl (And.intro hpf (And.intro hbc (And.intro hdc hng)))))); clear hp hlp hgl hpf hbc hdc hcm hcs hcl hct hng
        have c2' : w3.drew.cell? ⟨bl, 2, none⟩ = some (.int .i64 G.most) := c2
        have d2' : w3.drew.cell? ⟨g, init.length * 3 + 2, none⟩ = some (.int .i64 (p.size : Int)) := d2
        by_cases hsz : (p.size : Int) < G.most
        · rw [if_pos hsz] at hR
          have HR3 := Lib.hid hR; clear hR
          go_wp2_with fail
          (first | (go_region_held3 (fun w' => w'.cell? ⟨bl, 2, none⟩ = some (.int .i64 G.most) ∧ w'.cell? ⟨g, init.length * 3 + 2, none⟩ = some (.int .i64 (p.size : Int))) (first | (refine ⟨?_, ?_⟩ <;> assumption) | go_keep) (fail)) | fail)
          go_wp2_with fail
          go_meet
          case rel =>
            refine ⟨⟨by rw [HP.out.2.1], by simp [HP.out.1]⟩, ?_⟩
            have hk : ∀ (x : Nat) (o : Obj), w3.heap[x]? = some o → x ≠ z → (((w3.setCell ⟨z, 0, none⟩ (.int .i64 p.frm)).setCell ⟨z, 1, none⟩ (.int .i64 (p.many : Int))).setCell ⟨z, 2, none⟩ (.int .i64 (p.size : Int))).drew.heap[x]? = some o :=
              fun x o hx hne => heap_setCell_ne' (heap_setCell_ne' (heap_setCell_ne' hx hne) hne) hne
            have hz3 := H3.out.2.2.1
            have hzt : ∀ (x : Nat) (o : Obj), w3.heap[x]? = some o → tagOf o ≠ some 159 → x ≠ z := fun x o hx ht => by rintro rfl; rw [hz3] at hx; cases hx; exact ht rfl
            have hpz : (Value.slice (some ⟨g, 0, none⟩) (init.length + 1) cp).ownBlock ≠ some z := by
              intro he
              simp only [Value.ownBlock, Option.some.injEq] at he
              obtain ⟨_, _, _, _, _, h⟩ := own_slice H0.out.2.1.parts
              rcases h with h | ⟨g', h, _, h2⟩
              · simp [Value.ownBlock] at h
              · simp only [Value.ownBlock, Option.some.injEq] at h
                have := H3.out.2.2.2.2.2.2.2
                omega
            refine ⟨D, G.dirty, p, by rw [HP.out.2.2.1]; exact HR3.out, H3.out.1.keeps (fun x o hx ht => hk x o hx (hzt x o hx (by rcases ht with ht | ht | ht | ht <;> rw [ht] <;> simp))), H3.out.2.1.keepZ hz3 hpz hk, ?_, ?_, fun x o hx ht hne => hk x o (H3.out.2.2.2.2.1 _ x o hx ht hne) (by have := H3.out.2.2.2.2.2.2.2; have := heap_lt hx; omega), HP.out.2.2.2.1⟩
            · have h1 : (w3.setCell ⟨z, 0, none⟩ (.int .i64 p.frm)).heap[z]? = some (.cells #[.int .i64 p.frm, .int .i64 0, .int .i64 0] 159 (0, 0)) := by rw [Joins.block_setCell hz3]; rfl
              have h2 : ((w3.setCell ⟨z, 0, none⟩ (.int .i64 p.frm)).setCell ⟨z, 1, none⟩ (.int .i64 (p.many : Int))).heap[z]? = some (.cells #[.int .i64 p.frm, .int .i64 (p.many : Int), .int .i64 0] 159 (0, 0)) := by rw [Joins.block_setCell h1]; rfl
              exact (Joins.block_setCell h2 _)
            · have hT := H3.out.2.2.2.1
              refine ⟨hT.os, hT.tape, hT.output, by have := hT.size; simpa [World.setCell] using this, fun x o hx hc => hk x o (hT.block x o hx hc) ?_⟩
              have := H3.out.2.2.2.2.2.2.2
              have := heap_lt hx
              omega
        · rw [if_neg hsz] at hR
          have HR3 := Lib.hid hR; clear hR
          go_wp2_with fail
          (first | (go_region_held3 (fun w' => w'.cell? ⟨bl, 2, none⟩ = some (.int .i64 G.most) ∧ w'.cell? ⟨g, init.length * 3 + 2, none⟩ = some (.int .i64 (p.size : Int))) (first | (refine ⟨?_, ?_⟩ <;> assumption) | go_keep) (fail)) | fail)
          have hfr := H0.out.2.2.2.2.2.1
          have hg3 : Glob n w3.drew := H0.out.2.2.1.below (H3.out.2.2.2.1.drew.below H0.out.2.2.2.1)
          have hsy := wsyncX_c n bl bd _ rv vs D G w3.drew (H3.out.1.keeps fun _ _ hb _ => hb) (H3.out.2.1.drw 1) hg3 (Nat.le_trans H0.out.2.2.2.1 H3.out.2.2.2.1.size) (fun q hq => (hfr q hq).1)
          obtain ⟨SY, hSY⟩ : ∃ S, LogM.sync D G = S := ⟨_, rfl⟩
          have hsh := sync_shape D G
          rw [hSY] at hsy hsh
          have hR3 := HR3.out
          rw [hSY] at hR3
          have HS := Lib.hid (And.intro hsy hsh); clear hsy hsh hfr hg3
          have HR4 := Lib.hid hR3; clear hR3
          go_wp2_with fail
          refine HS.out.1.mono ?_
          rintro e w5 ⟨rfl, hD5, hX5, hT5⟩
          have H5 := Lib.hid (And.intro hD5 (And.intro hX5 hT5)); clear hD5 hX5 hT5
          by_cases he : SY.2.2 = 0
          · have he' : ¬ SY.2.2 ≠ 0 := by simp [he]
            go_wp2_with fail
            go_meet
            case rel =>
              obtain ⟨d, hd⟩ := HS.out.2
              have hR := HR4.out
              rw [if_neg he', hd] at hR
              have hX5 := H5.out.2.1
              rw [hd] at hX5
              exact ⟨⟨by rw [HP.out.2.1], by simp [HP.out.1]⟩, SY.1, d, ⟨G.fin, 0, 0⟩, by rw [HP.out.2.2.1]; exact hR, H5.out.1, hX5, H5.out.2.2.block _ _ H3.out.2.2.1 (.inr (by simp [tagOf])),
                H3.out.2.2.2.1.trans ((Turn.refl _ _ _).drew.trans (H5.out.2.2.mono (Nat.le_refl _) (by simp [TA0]))), (H3.out.2.2.2.2.1 _).trans (fun x o hx ht _ => H5.out.2.2.block x o hx (.inr (by rw [ht]; simp))), H3.out.2.2.2.2.2.2.1, Nat.zero_le _, Nat.zero_le _⟩
          · have he' : SY.2.2 ≠ 0 := he
            go_wp2_with fail
            go_ret
            have hR := HR4.out
            rw [if_pos he'] at hR
            rw [← hR]
            exact AppX.of0 rfl H5.out.1 H5.out.2.1 (H3.out.2.2.2.1.trans ((Turn.refl _ _ _).drew.trans (H5.out.2.2.mono (Nat.le_refl _) (by simp [TA0])))) ((H3.out.2.2.2.2.1 _).trans (fun x o hx ht _ => H5.out.2.2.block x o hx (.inr (by rw [ht]; simp))))
    case rest =>
      obtain ⟨⟨rfl, rfl⟩, hM⟩ := hcut
      obtain ⟨D', dty, next, hlay, hD, hX, hzz, hT, hbs, hnf, hnm, hns⟩ := hM
      obtain ⟨FN, hFN⟩ : ∃ FN, Wal.fileB G.name next.frm = FN := ⟨_, rfl⟩
      have hfl := fileB_length G.name next.frm (by have := hX.nm; simp only at this; omega)
      obtain ⟨AP, hAP⟩ : ∃ AP, D'.append FN (Wal.frameB b) = AP := ⟨_, rfl⟩
      have HMP := Lib.hid (show RS.1.mp = D'.mp by rw [← hlay]; exact lay_mp _ _ _ _ _)
      unfold LogM.lay at hlay
      simp only at hlay
      rw [hFN] at hfl
      rw [hFN, hAP] at hlay
      have hfc := file_c n G.name (by have := hX.nm; simp only at this; omega) next.frm (by omega) (by omega) wc.drew (H0.out.2.2.1.below (hT.drew.below H0.out.2.2.2.1))
      rw [hFN] at hfc
      have e0 : wc.drew.cell? ⟨bl, 0, none⟩ = some (.pointer (some ⟨bd, 0, none⟩)) := by have := Joins.cell_of_block hX.at_ 0; simpa using this
      have e1 : wc.drew.cell? ⟨bl, 1, none⟩ = some (.string ⟨G.name.toArray⟩) := by have := Joins.cell_of_block hX.at_ 1; simpa using this
      have e2 : wc.drew.cell? ⟨z, 0, none⟩ = some (.int .i64 next.frm) := by have := Joins.cell_of_block hzz 0; simpa using this
      have hlb := heap_lt hX.at_
      have hlz := heap_lt hzz
      have HM := Lib.hid (And.intro hD (And.intro hX (And.intro hzz (And.intro hT (And.intro hbs (And.intro hnf (And.intro hnm hns)))))))
      have HN := Lib.hid (And.intro hlay (And.intro hFN (And.intro hfl (And.intro hAP hfc))))
      clear hD hX hzz hT hbs hnf hnm hns hlay hFN hfl hAP hfc
      go_wp2_with fail
      go_region_held3 (fun w' => w'.cell? ⟨bl, 0, none⟩ = some (.pointer (some ⟨bd, 0, none⟩)) ∧ w'.cell? ⟨bl, 1, none⟩ = some (.string ⟨G.name.toArray⟩) ∧ w'.cell? ⟨z, 0, none⟩ = some (.int .i64 next.frm))
        (first | (refine ⟨?_, ?_, ?_⟩ <;> assumption) | go_keep)
        (first
          | (go_at_call 89; refine HN.out.2.2.2.2.mono ?_; rintro e w6 ⟨rfl, hb6⟩
             have k0 := (hb6.cell (p := ⟨bl, 0, none⟩) hlb).trans e0
             have k1 := (hb6.cell (p := ⟨bl, 1, none⟩) hlb).trans e1
             have k2 := (hb6.cell (p := ⟨z, 0, none⟩) hlz).trans e2
             have HB6 := Lib.hid (bel_drew hb6); clear hb6)
          | (go_at_call 118; refine (frame_c A b.length cap b rfl (by omega) H0.out.2.2.2.2.1.le w6 (((H0.out.2.2.2.2.1.turn HM.out.2.2.2.1 (by simp)).rd).below HB6.out)).mono ?_; rintro e w7 ⟨vf, rfl, hown, hb7⟩
             obtain ⟨Af, capf, rfl, hcf, -, -⟩ := own_slice hown
             have m0 := (hb7.cell (p := ⟨bl, 0, none⟩) (cell_lt k0)).trans k0
             have m1 := (hb7.cell (p := ⟨bl, 1, none⟩) (cell_lt k1)).trans k1
             have m2 := (hb7.cell (p := ⟨z, 0, none⟩) (cell_lt k2)).trans k2
             have HB7 := Lib.hid (And.intro (bstep HB6.out hb7) (And.intro hown hcf)); clear hb7 hown hcf)
          | (go_at_call 10; refine (append_c n bd D' FN (by have := HN.out.2.2.1; omega) (Wal.frameB b) Af capf (Wal.frameB b).length rfl (by rw [frameB_length]; omega) w7 (HM.out.1.below HB7.out.1) (fun W hW => (Rd.of_own (own_keeps HB7.out.2.1 fun x o hx ht => hW.block x o hx (.inr (by rw [ht]; simp)))).mono (Nat.zero_le _)) HB7.out.2.2).mono ?_; rintro e w8 ⟨rfl, hD8, hT8, hM8⟩; have HM8 := Lib.hid hM8; clear hM8
             rw [HN.out.2.2.2.1] at hD8
             rw [HN.out.2.2.2.1]
             have hX8 := (HM.out.2.1.below HB7.out.1).keeps (KeepsL.of_turn hT8 (by simp) (by simp) (by simp) (by simp))
             have hz8 := hT8.block _ _ ((HB7.out.1.block _ (heap_lt HM.out.2.2.1)).trans HM.out.2.2.1) (.inr (by simp [tagOf]))
             have o0 := Joins.cell_of_block hX8.at_ 0
             have o1 := Joins.cell_of_block hX8.at_ 1
             have o2 := Joins.cell_of_block hz8 0
             simp at o0 o1 o2
             have H8 := Lib.hid (And.intro hD8 (And.intro hT8 (And.intro hX8 hz8))); clear hD8 hT8 hX8 hz8))
      have hT08 : Turn n TA0 w w8 := HM.out.2.2.2.1.trans (((Turn.of_below HB7.out.1)).trans (H8.out.2.1.mono (Nat.le_refl _) (by simp [TA0])))
      have HT8 := Lib.hid hT08; clear hT08
      have HMK := Lib.hid (show MapK RS.1.mp w w8 from HM.out.2.2.2.2.1.trans ((MapK.of_below HB7.out.1).trans (by rw [HMP.out]; exact HM8.out)))
      by_cases hap : AP.2 = 0
      · have hap' : ¬ AP.2 ≠ 0 := by simp [hap]
        have hlay := HN.out.1
        rw [if_neg hap'] at hlay
        have z1 := Joins.cell_of_block H8.out.2.2.2 1
        have z2 := Joins.cell_of_block H8.out.2.2.2 2
        have y1 := Joins.unfrozen_of_block H8.out.2.2.2 1
        have y2 := Joins.unfrozen_of_block H8.out.2.2.2 2
        simp at z1 z2
        have HL := Lib.hid hlay; clear hlay
        go_upto_region 16 with fail
        have g1 : wrap64 ((next.many : Int) + 1) = (next.many : Int) + 1 := wrap_le (next.many + 1) (by simp) (Nat.le_trans (Nat.succ_le_succ HM.out.2.2.2.2.2.2.1) (by decide))
        have g2 : wrap64 (12 + (b.length : Int)) = 12 + (b.length : Int) := wrap_le (12 + b.length) (by simp) (Nat.le_trans (Nat.add_le_add_left (Nat.not_lt.1 h6) 12) (by decide))
        have g3 : wrap64 ((next.size : Int) + (12 + (b.length : Int))) = (next.size : Int) + (12 + (b.length : Int)) := wrap_le (next.size + (12 + b.length)) (by simp) (Nat.le_trans (Nat.add_le_add HM.out.2.2.2.2.2.2.2 (Nat.add_le_add_left (Nat.not_lt.1 h6) 12)) (by decide))
        have H66 := Lib.hid (And.intro h6 (And.intro h6' (And.intro hap (And.intro hap' hfew)))); clear h6 h6' hap hap' hfew
        go_wp2_with fail
        obtain ⟨W, hW⟩ : ∃ W, (w8.setCell ⟨z, 1, none⟩ (.int .i64 ((next.many : Int) + 1))).setCell ⟨z, 2, none⟩ (.int .i64 ((next.size : Int) + (12 + (b.length : Int)))) = W := ⟨_, rfl⟩
        rw [hW]
        obtain ⟨nx, hnx⟩ : ∃ nx : PartM, nx = ⟨next.frm, next.many + 1, next.size + (12 + b.length)⟩ := ⟨_, rfl⟩
        have hkW : ∀ (x : Nat) (o : Obj), w8.heap[x]? = some o → x ≠ z → W.heap[x]? = some o := fun x o hx hne => by
          rw [← hW]; exact heap_setCell_ne' (heap_setCell_ne' hx hne) hne
        have hz8 := H8.out.2.2.2
        have hzt : ∀ (x : Nat) (o : Obj), w8.heap[x]? = some o → tagOf o ≠ some 159 → x ≠ z := fun x o hx ht => by rintro rfl; rw [hz8] at hx; cases hx; exact ht rfl
        have hzW : W.heap[z]? = some (.cells #[.int .i64 nx.frm, .int .i64 (nx.many : Int), .int .i64 (nx.size : Int)] 159 (0, 0)) := by
          have h1 : (w8.setCell ⟨z, 1, none⟩ (.int .i64 ((next.many : Int) + 1))).heap[z]? = some (.cells #[.int .i64 next.frm, .int .i64 ((next.many : Int) + 1), .int .i64 (next.size : Int)] 159 (0, 0)) := by rw [Joins.block_setCell hz8]; rfl
          rw [← hW, Joins.block_setCell h1, hnx]
          simp
        have hpz : pv.ownBlock ≠ some z := by
          obtain ⟨_, _, hvv, _, _, h⟩ := own_slice H0.out.2.1.parts
          rcases h with h | ⟨g', h, _, h2⟩
          · rw [h]; simp
          · rw [h]; intro he; cases he; have := H3.out.2.2.2.2.2.2.2; omega
        have hXW := H8.out.2.2.1.keepZ hz8 hpz hkW
        have hDW : DiskR n W bd AP.1 := H8.out.1.keeps fun x o hx ht => hkW x o hx (hzt x o hx (by rcases ht with ht | ht | ht | ht <;> rw [ht] <;> simp))
        have hsW : W.heap.size = w8.heap.size := by rw [← hW]; simp [World.setCell]
        have hTW : Turn n TA0 w W := by
          have hT := HT8.out
          refine ⟨by rw [← hW]; exact hT.os, by rw [← hW]; exact hT.tape, by rw [← hW]; exact hT.output, by rw [hsW]; exact hT.size, fun x o hx hc => hkW x o (hT.block x o hx hc) ?_⟩
          have := H3.out.2.2.2.2.2.2.2
          have := heap_lt hx
          omega
        have hbW : MapK RS.1.mp w W := fun x o hx ht hne => hkW x o (HMK.out x o hx ht hne) (by have := H3.out.2.2.2.2.2.2.2; have := heap_lt hx; omega)
        obtain ⟨B, hB⟩ : ∃ B, (G.parts.getLast?).any (fun q => decide (next.frm = q.frm)) = B := ⟨_, rfl⟩
        have hR := HL.out
        rw [hB, ← hnx] at hR
        have HW := Lib.hid (And.intro hzW (And.intro hXW (And.intro hDW (And.intro hTW (And.intro hbW (And.intro hB (And.intro hpz (And.intro hR hnx))))))))
        clear hkW hz8 hzt hzW hXW hDW hsW hTW hbW hB hpz hR hW hnx g1 g2 g3 z1 z2 y1 y2 o0 o1 o2
        go_cut [6, 7, 83] from 74 (fun s6 s7 s83 w' => ((s6 = .pointer (lastP pv G.parts.length) ∧ s7 = .bool (decide (G.parts ≠ []))) ∧ s83 = .bool B) ∧ w' = W.drew)
        case first =>
          rcases List.eq_nil_or_concat G.parts with h0 | ⟨init, p, hp⟩
          · have hlp : lastP pv G.parts.length = none := by rw [h0]; unfold lastP; split <;> simp
            have hdc : (decide (G.parts = [])) = true := by simp [h0]
            rw [hlp, hdc]
            have HP := Lib.hid (And.intro h0 hlp)
            clear h0 hlp hdc
            refine wp_region_held_drew (S := fun _ => True) (by kernel_rfl) trivial (fun _ => ?_)
            refine wpAnyH_take (i := 0) (v := ?_) rfl (by kernel_rfl) (by kernel_rfl) (by kernel_rfl) (fun _ _ _ h => h) (Or.inl ⟨by rfl, ?_⟩) trivial ?_
            rotate_left
            · (intro w _; go_simp <;> with_reducible rfl)
            simp only [Act.put, List.getElem_toArray, List.getElem_cons_zero, List.getElem_cons_succ, List.setIfInBounds_toArray, List.set_cons_zero, List.set_cons_succ]
            refine wpAnyH_take (i := 1) (v := ?_) rfl (by kernel_rfl) (by kernel_rfl) (by kernel_rfl) (fun _ _ _ h => h) (Or.inl ⟨by rfl, ?_⟩) trivial ?_
            rotate_left
            · (intro w _; go_simp <;> with_reducible rfl)
            simp only [Act.put, List.getElem_toArray, List.getElem_cons_zero, List.getElem_cons_succ, List.setIfInBounds_toArray, List.set_cons_zero, List.set_cons_succ]
            refine wpAnyH_take (i := 2) (v := undef) rfl (by kernel_rfl) (by kernel_rfl) (by kernel_rfl) (fun _ _ _ h => h) (Or.inr ⟨by rfl, rfl⟩) trivial ?_
            simp only [Act.put, List.getElem_toArray, List.getElem_cons_zero, List.getElem_cons_succ, List.setIfInBounds_toArray, List.set_cons_zero, List.set_cons_succ]
            refine wpAnyH_take (i := 3) (v := undef) rfl (by kernel_rfl) (by kernel_rfl) (by kernel_rfl) (fun _ _ _ h => h) (Or.inr ⟨by rfl, rfl⟩) trivial ?_
            simp only [Act.put, List.getElem_toArray, List.getElem_cons_zero, List.getElem_cons_succ, List.setIfInBounds_toArray, List.set_cons_zero, List.set_cons_succ]
            refine wpAnyH_take (i := 4) (v := undef) rfl (by kernel_rfl) (by kernel_rfl) (by kernel_rfl) (fun _ _ _ h => h) (Or.inr ⟨by rfl, rfl⟩) trivial ?_
            simp only [Act.put, List.getElem_toArray, List.getElem_cons_zero, List.getElem_cons_succ, List.setIfInBounds_toArray, List.set_cons_zero, List.set_cons_succ]
            refine wpAnyH_take (i := 5) (v := undef) rfl (by kernel_rfl) (by kernel_rfl) (by kernel_rfl) (fun _ _ _ h => h) (Or.inr ⟨by rfl, rfl⟩) trivial ?_
            simp only [Act.put, List.getElem_toArray, List.getElem_cons_zero, List.getElem_cons_succ, List.setIfInBounds_toArray, List.set_cons_zero, List.set_cons_succ]
            refine wpAnyH_take (i := 6) (v := undef) rfl (by kernel_rfl) (by kernel_rfl) (by kernel_rfl) (fun _ _ _ h => h) (Or.inr ⟨by rfl, rfl⟩) trivial ?_
            simp only [Act.put, List.getElem_toArray, List.getElem_cons_zero, List.getElem_cons_succ, List.setIfInBounds_toArray, List.set_cons_zero, List.set_cons_succ]
            refine wpAnyH_take (i := 7) (v := undef) rfl (by kernel_rfl) (by kernel_rfl) (by kernel_rfl) (fun _ _ _ h => h) (Or.inr ⟨by rfl, rfl⟩) trivial ?_
            simp only [Act.put, List.getElem_toArray, List.getElem_cons_zero, List.getElem_cons_succ, List.setIfInBounds_toArray, List.set_cons_zero, List.set_cons_succ]
            refine wpAnyH_take (i := 8) (v := undef) rfl (by kernel_rfl) (by kernel_rfl) (by kernel_rfl) (fun _ _ _ h => h) (Or.inr ⟨by rfl, rfl⟩) trivial ?_
            simp only [Act.put, List.getElem_toArray, List.getElem_cons_zero, List.getElem_cons_succ, List.setIfInBounds_toArray, List.set_cons_zero, List.set_cons_succ]
            refine wpAnyH_take (i := 9) (v := ?_) rfl (by kernel_rfl) (by kernel_rfl) (by kernel_rfl) (fun _ _ _ h => h) (Or.inl ⟨by rfl, ?_⟩) trivial ?_
            rotate_left
            · (intro w _; go_simp <;> with_reducible rfl)
            simp only [Act.put, List.getElem_toArray, List.getElem_cons_zero, List.getElem_cons_succ, List.setIfInBounds_toArray, List.set_cons_zero, List.set_cons_succ]
            refine wpAnyH_done (by kernel_rfl) ?_ _
            go_wp2_with fail
            go_meet
            case rel =>
              have hB := HW.out.2.2.2.2.2.1
              rw [HP.out.1] at hB
              refine ⟨⟨⟨by rw [HP.out.2], by simp [HP.out.1]⟩, ?_⟩, rfl⟩
              rw [← hB]; rfl
          · rw [List.concat_eq_append] at hp
            obtain ⟨g, cp, hpv⟩ : ∃ g cp, pv = .slice (some ⟨g, 0, none⟩) (init.length + 1) cp := by
              have hlen : G.parts.length = init.length + 1 := by rw [hp]; simp
              rcases H0.out.2.1.parts.2 with ⟨_, h2⟩ | ⟨g, cp, _, hv, _⟩
              · omega
              · exact ⟨g, cp, by rw [hv, hlen]⟩
            subst hpv
            have hlp : lastP (.slice (some ⟨g, 0, none⟩) (init.length + 1) cp) G.parts.length = some ⟨g, init.length * 3, none⟩ := by rw [hp]; simp [lastP]
            have hdc : (decide (G.parts = [])) = false := by simp [hp]
            obtain ⟨_, _, _, _, _, _, _, _, d0, _, _⟩ := HW.out.2.1.part hp
            have x0 := Joins.cell_of_block HW.out.1 0
            simp at x0
            rw [hlp, hdc]
            have hBv : B = decide (nx.frm = p.frm) := by
              have hB := HW.out.2.2.2.2.2.1
              have hgl : G.parts.getLast? = some p := by rw [hp]; simp
              rw [hgl] at hB
              have hf : nx.frm = next.frm := by rw [HW.out.2.2.2.2.2.2.2.2]
              rw [← hB, hf]
              rfl
            have HP := Lib.hid (And.intro hp (And.intro hlp (And.intro hdc hBv))); clear hp hlp hdc hBv
            have d0' : W.drew.cell? ⟨g, init.length * 3, none⟩ = some (.int .i64 p.frm) := d0
            have x0' : W.drew.cell? ⟨z, 0, none⟩ = some (.int .i64 nx.frm) := x0
            go_wp2_with fail
            (first | (go_region_held3 (fun w' => w'.cell? ⟨z, 0, none⟩ = some (.int .i64 nx.frm) ∧ w'.cell? ⟨g, init.length * 3, none⟩ = some (.int .i64 p.frm)) (first | (refine ⟨?_, ?_⟩ <;> assumption) | go_keep) (fail)) | fail)
            go_wp2_with fail
            go_meet
            case rel =>
              refine ⟨⟨⟨by rw [HP.out.2.1], by simp [HP.out.1]⟩, ?_⟩, rfl⟩
              rw [HP.out.2.2.2]
              first | rfl | (congr 1; rw [Bool.eq_iff_iff]; simp)
        case rest =>
          obtain ⟨⟨⟨rfl, rfl⟩, rfl⟩, hwc⟩ := hcut
          have hzc : wc.heap[z]? = some (.cells #[.int .i64 nx.frm, .int .i64 (nx.many : Int), .int .i64 (nx.size : Int)] 159 (0, 0)) := by rw [hwc]; exact HW.out.1
          have hXc : LogX n wc bl bd pv rv vs { G with dirty := dty } := by rw [hwc]; exact HW.out.2.1.drw 1
          have hDc : DiskR n wc bd AP.1 := by rw [hwc]; exact HW.out.2.2.1.keeps fun _ _ hb _ => hb
          have hTc : Turn n TA0 w wc := by rw [hwc]; exact HW.out.2.2.2.1.drew
          have hbc : MapK RS.1.mp w wc := by rw [hwc]; exact HW.out.2.2.2.2.1
          have x0 := Joins.cell_of_block hzc 0
          have x1 := Joins.cell_of_block hzc 1
          have x2 := Joins.cell_of_block hzc 2
          simp at x0 x1 x2
          have HC := Lib.hid (And.intro hzc (And.intro hXc (And.intro hDc (And.intro hTc hbc)))); clear hzc hXc hDc hTc hbc hwc
          go_upto_if 83 with fail
          go_cut [6, 7, 84] from 84 (fun s6 s7 s84 w' => ∃ pv' NP, LogX n w' bl bd pv' rv vs { G with parts := NP, dirty := dty } ∧ NP = (if B = true then G.parts.dropLast ++ [nx] else G.parts ++ [nx]) ∧ DiskR n w' bd AP.1 ∧ Turn n TA0 w w' ∧ MapK RS.1.mp w w')
          case first =>
            cases B with
            | true =>
              rcases List.eq_nil_or_concat G.parts with h0 | ⟨init, p, hp⟩
              · exfalso
                have hB := HW.out.2.2.2.2.2.1
                rw [h0] at hB
                simp at hB
              · rw [List.concat_eq_append] at hp
                obtain ⟨g, cp, hpv⟩ : ∃ g cp, pv = .slice (some ⟨g, 0, none⟩) (init.length + 1) cp := by
                  have hlen : G.parts.length = init.length + 1 := by rw [hp]; simp
                  rcases H0.out.2.1.parts.2 with ⟨_, h2⟩ | ⟨g, cp, _, hv, _⟩
                  · omega
                  · exact ⟨g, cp, by rw [hv, hlen]⟩
                subst hpv
                have hlp : lastP (.slice (some ⟨g, 0, none⟩) (init.length + 1) cp) G.parts.length = some ⟨g, init.length * 3, none⟩ := by rw [hp]; simp [lastP]
                rw [hlp]
                obtain ⟨_, _, cur, hbc, _, _, _, _, d0, d1, d2⟩ := HC.out.2.1.part hp
                have df0 := Joins.unfrozen_of_block hbc (init.length * 3)
                have df1 := Joins.unfrozen_of_block hbc (init.length * 3 + 1)
                have df2 := Joins.unfrozen_of_block hbc (init.length * 3 + 2)
                have hsl := HC.out.2.1.setLast hp nx
                have HSL := Lib.hid (And.intro hsl (And.intro hp (And.intro hlp hbc))); clear hsl hp hlp hbc
                go_wp2_with fail
                go_meet
                case rel =>
                  obtain ⟨hL, hk, hng, cur', hcur⟩ := HSL.out.1
                  have hkt : ∀ (x : Nat) (o : Obj), wc.heap[x]? = some o → tagOf o ≠ some 159 → x ≠ g := fun x o hb ht => by rintro rfl; rw [hcur] at hb; cases hb; exact ht rfl
                  refine ⟨_, _, hL, by rw [HSL.out.2.1]; simp, HC.out.2.2.1.keeps fun x o hb ht => hk x o hb (hkt x o hb (by rcases ht with ht | ht | ht | ht <;> rw [ht] <;> simp)), ?_, HC.out.2.2.2.2.trans (fun x o hb ht _ => hk x o hb (hkt x o hb (by rw [ht]; simp)))⟩
                  have hT := HC.out.2.2.2.1
                  refine ⟨hT.os, hT.tape, hT.output, by have := hT.size; simpa [World.setCell] using this, fun x o hx hc => hk x o (hT.block x o hx hc) ?_⟩
                  rintro rfl
                  have hb := hT.block x o hx hc
                  rw [hcur] at hb; cases hb
                  rcases hc with hc | hc
                  · omega
                  · exact hc (by simp [tagOf, TA0])
            | false =>
              obtain ⟨Ap, capp, hpv, -, -, -⟩ := own_slice HC.out.2.1.parts
              subst hpv
              simp only at *
              obtain ⟨iI, hiI, hzI0, hzI1, hzI2⟩ := info_part
              have hnW : n ≤ wc.heap.size := Nat.le_trans H0.out.2.2.2.1 HC.out.2.2.2.1.size
              have hat := HC.out.2.1.at_
              have hq1 : G.parts.length + 1 ≤ maxLen := by unfold maxLen; have := H66.out.2.2.2.2.2; omega
              have hq2 : (G.parts.length + 1) * 24 ≤ 140737488355328 := by have := H66.out.2.2.2.2.2; omega
              obtain ⟨pv', W2, happ, hown', hgrow', hblk'⟩ := run_append_rd (P := Tryz.prog) ((wc.alloc (.cells #[.int .i64 nx.frm, .int .i64 (nx.many : Int), .int .i64 (nx.size : Int)] 159)).drew) n 141 141 159 iI _ 3 24 Tryz.underlying141 hiI hzI0 hzI1 hzI2 rfl (by decide) _ G.parts.length (partCells G.parts)
                (own_below HC.out.2.1.parts (((Below.refl _ wc).alloc (Nat.le_refl _) _).drew)) 0 (some ⟨wc.heap.size, 0, none⟩) 1 1 [.int .i64 nx.frm, .int .i64 (nx.many : Int), .int .i64 (nx.size : Int)] rfl (rd_new3 wc _ _ _ _) (by simp [Value.oneCell']) hq1 hq2 (Nat.le_trans hnW (by simp)) (fun h => by cases h)
              obtain ⟨g', cap', rfl⟩ := ownsRow_succ hown'
              have hAW : ∀ y, y < wc.heap.size → ((wc.alloc (.cells #[.int .i64 nx.frm, .int .i64 (nx.many : Int), .int .i64 (nx.size : Int)] 159)).drew).heap[y]? = wc.heap[y]? := fun y hy => Below.heap_alloc wc _ y hy
              have hAdd := HC.out.2.1.addPart (q := nx) hown' hgrow' hAW (hblk'.imp id (fun h => by rw [h]; simp)) (by have := H66.out.2.2.2.2.2; simp only; omega)
              have b1 := grown_at hgrow' HW.out.2.2.2.2.2.2.1 HC.out.1 hAW
              have b2 : W2.heap[bl]? = _ := hAdd.2.2.trans hat
              have a1 := Joins.cell_of_block b1 0
              have a2 := Joins.cell_of_block b1 1
              have a3 := Joins.cell_of_block b1 2
              have a4 := Joins.unfrozen_of_block b2 3
              have a8 := Joins.cell_of_block b2 3
              have p3 := Joins.cell_of_block hat 3
              have u3 := Joins.cell_of_block ((Below.heap_alloc wc (.cells #[.int .i64 nx.frm, .int .i64 (nx.many : Int), .int .i64 (nx.size : Int)] 159) _ (heap_lt hat)).trans hat) 3
              simp at a1 a2 a3 a8 u3 p3
              have n1 : bl ≠ z := by rintro rfl; rw [HC.out.1] at hat; simp at hat
              have d1 := (World.cell?_setCell_far W2 ⟨bl, 3, none⟩ ⟨z, 0, none⟩ (.slice (some ⟨g', 0, none⟩) (G.parts.length + 1) cap') n1).trans a1
              have d2 := (World.cell?_setCell_far W2 ⟨bl, 3, none⟩ ⟨z, 1, none⟩ (.slice (some ⟨g', 0, none⟩) (G.parts.length + 1) cap') n1).trans a2
              have d3 := (World.cell?_setCell_far W2 ⟨bl, 3, none⟩ ⟨z, 2, none⟩ (.slice (some ⟨g', 0, none⟩) (G.parts.length + 1) cap') n1).trans a3
              have HAPP := Lib.hid happ
              have HG := Lib.hid (And.intro hAdd (And.intro hown' (And.intro hgrow' hblk')))
              clear happ hAdd hown' hgrow' hblk' b1 b2 hAW hat hq1 hq2 hnW hiI hzI0 hzI1 hzI2
              go_wp2_with fail
              refine wp_region_held_drew (S := (fun w' => w'.cell? ⟨z, 0, none⟩ = some (.int .i64 nx.frm) ∧ w'.cell? ⟨z, 1, none⟩ = some (.int .i64 (nx.many : Int)) ∧ w'.cell? ⟨z, 2, none⟩ = some (.int .i64 (nx.size : Int)))) (by kernel_rfl) ?_ (fun hHeld => ?_)
              · (try dsimp only); (first | (refine ⟨?_, ?_, ?_⟩ <;> assumption) | go_keep)
              refine wpAnyH_take (i := 0) (v := ?_) rfl (by kernel_rfl) (by kernel_rfl) (by kernel_rfl) (fun _ _ _ h => h) (Or.inl ⟨by rfl, ?_⟩) hHeld ?_
              rotate_left
              · intro w hSw; (try dsimp only at hSw); go_simp; (try with_reducible rfl)
              (try simp only [Act.put, List.getElem_toArray, List.getElem_cons_succ, List.getElem_cons_zero, List.setIfInBounds_toArray, List.set_cons_zero, List.set_cons_succ])
              refine wpAnyH_take (i := 1) (v := ?_) rfl (by kernel_rfl) (by kernel_rfl) (by kernel_rfl) (fun _ _ _ h => h) (Or.inl ⟨by rfl, ?_⟩) hHeld ?_
              rotate_left
              · intro w hSw; (try dsimp only at hSw); go_simp; (try with_reducible rfl)
              (try simp only [Act.put, List.getElem_toArray, List.getElem_cons_succ, List.getElem_cons_zero, List.setIfInBounds_toArray, List.set_cons_zero, List.set_cons_succ])
              refine wpAnyH_take (i := 2) (v := ?_) rfl (by kernel_rfl) (by kernel_rfl) (by kernel_rfl) (fun _ _ _ h => h) (Or.inl ⟨by rfl, ?_⟩) hHeld ?_
              rotate_left
              · intro w hSw; (try dsimp only at hSw); go_simp; (try with_reducible rfl)
              (try simp only [Act.put, List.getElem_toArray, List.getElem_cons_succ, List.getElem_cons_zero, List.setIfInBounds_toArray, List.set_cons_zero, List.set_cons_succ])
              refine wpAnyH_take (i := 3) (v := ?_) rfl (by kernel_rfl) (by kernel_rfl) (by kernel_rfl) (fun _ _ _ h => h) (Or.inl ⟨by rfl, ?_⟩) hHeld ?_
              rotate_left
              · intro w hSw; (try dsimp only at hSw); go_simp; (try with_reducible rfl)
              (try simp only [Act.put, List.getElem_toArray, List.getElem_cons_succ, List.getElem_cons_zero, List.setIfInBounds_toArray, List.set_cons_zero, List.set_cons_succ])
              refine wpAnyH_take (i := 5) (v := ?_) rfl (by kernel_rfl) (by kernel_rfl) (by kernel_rfl) (fun _ _ _ h => h) (Or.inl ⟨by rfl, ?_⟩) hHeld ?_
              rotate_left
              · intro w hSw; (try dsimp only at hSw); go_simp; (try with_reducible rfl)
              (try simp only [Act.put, List.getElem_toArray, List.getElem_cons_succ, List.getElem_cons_zero, List.setIfInBounds_toArray, List.set_cons_zero, List.set_cons_succ])
              refine wpAnyH_ready (rs := [4, 6]) (by kernel_rfl) (by simp) ?_
              refine (AllReadyH.cons rfl (fun K hK => ?_) (AllReadyH.cons rfl (fun K hK => ?_) AllReadyH.nil))
              go_simp
              refine hK.out _ _ ?_ (fun hHeld2 => ?_)
              · (try dsimp only); (first | (refine ⟨?_, ?_, ?_⟩ <;> assumption) | go_keep)
              clear hK K hHeld
              rename _ => hHeld
              (try simp only [Act.put, List.getElem_toArray, List.getElem_cons_succ, List.getElem_cons_zero, List.setIfInBounds_toArray, List.set_cons_zero, List.set_cons_succ])
              refine wpAnyH_ready (rs := [6]) (by kernel_rfl) (by simp) ?_
              refine (AllReadyH.cons rfl (fun K hK => ?_) AllReadyH.nil)
              go_simp
              refine hK.out _ _ ?_ (fun hHeld2 => ?_)
              · (try dsimp only); (first | (refine ⟨?_, ?_, ?_⟩ <;> assumption) | go_keep)
              clear hK K hHeld
              rename _ => hHeld
              (try simp only [Act.put, List.getElem_toArray, List.getElem_cons_succ, List.getElem_cons_zero, List.setIfInBounds_toArray, List.set_cons_zero, List.set_cons_succ])
              refine wpAnyH_ready (rs := [7]) (by kernel_rfl) (by simp) ?_
              refine (AllReadyH.cons rfl (fun K hK => ?_) AllReadyH.nil)
              (try rw [if_pos (by rfl)])
              refine wp_append_run _ _ _ rfl _ _ rfl rfl HAPP.out ?_
              refine hK.out _ _ ?_ (fun hHeld2 => ?_)
              · (try dsimp only); (first | (refine ⟨?_, ?_, ?_⟩ <;> assumption) | go_keep)
              clear hK K hHeld
              rename _ => hHeld
              (try simp only [Act.put, List.getElem_toArray, List.getElem_cons_succ, List.getElem_cons_zero, List.setIfInBounds_toArray, List.set_cons_zero, List.set_cons_succ])
              refine wpAnyH_take (i := 8) (v := ?_) rfl (by kernel_rfl) (by kernel_rfl) (by kernel_rfl) (fun _ _ _ h => h) (Or.inl ⟨by rfl, ?_⟩) hHeld ?_
              rotate_left
              · intro w hSw; (try dsimp only at hSw); go_simp; (try with_reducible rfl)
              (try simp only [Act.put, List.getElem_toArray, List.getElem_cons_succ, List.getElem_cons_zero, List.setIfInBounds_toArray, List.set_cons_zero, List.set_cons_succ])
              refine wpAnyH_take (i := 9) (v := ?_) rfl (by kernel_rfl) (by kernel_rfl) (by kernel_rfl) (fun _ _ _ h => h) (Or.inl ⟨by rfl, ?_⟩) hHeld ?_
              rotate_left
              · intro w hSw; (try dsimp only at hSw); go_simp; (try with_reducible rfl)
              (try simp only [Act.put, List.getElem_toArray, List.getElem_cons_succ, List.getElem_cons_zero, List.setIfInBounds_toArray, List.set_cons_zero, List.set_cons_succ])
              refine wpAnyH_ready (rs := [10]) (by kernel_rfl) (by simp) ?_
              refine (AllReadyH.cons rfl (fun K hK => ?_) AllReadyH.nil)
              go_simp
              refine hK.out _ _ ?_ (fun hHeld2 => ?_)
              · (try dsimp only); (first | (refine ⟨?_, ?_, ?_⟩ <;> assumption) | go_keep)
              clear hK K hHeld
              rename _ => hHeld
              (try simp only [Act.put, List.getElem_toArray, List.getElem_cons_succ, List.getElem_cons_zero, List.setIfInBounds_toArray, List.set_cons_zero, List.set_cons_succ])
              refine wpAnyH_done (by kernel_rfl) ?_ _
              clear hHeld
              rotate_left 1
              go_simp
              refine hK.out _ _ ?_ (fun hHeld2 => ?_)
              · (try dsimp only); (first | (refine ⟨?_, ?_, ?_⟩ <;> assumption) | go_keep)
              clear hK K hHeld
              rename _ => hHeld
              (try simp only [Act.put, List.getElem_toArray, List.getElem_cons_succ, List.getElem_cons_zero, List.setIfInBounds_toArray, List.set_cons_zero, List.set_cons_succ])
              refine wpAnyH_ready (rs := [4]) (by kernel_rfl) (by simp) ?_
              refine (AllReadyH.cons rfl (fun K hK => ?_) AllReadyH.nil)
              go_simp
              refine hK.out _ _ ?_ (fun hHeld2 => ?_)
              · (try dsimp only); (first | (refine ⟨?_, ?_, ?_⟩ <;> assumption) | go_keep)
              clear hK K hHeld
              rename _ => hHeld
              (try simp only [Act.put, List.getElem_toArray, List.getElem_cons_succ, List.getElem_cons_zero, List.setIfInBounds_toArray, List.set_cons_zero, List.set_cons_succ])
              refine wpAnyH_ready (rs := [7]) (by kernel_rfl) (by simp) ?_
              refine (AllReadyH.cons rfl (fun K hK => ?_) AllReadyH.nil)
              (try rw [if_pos (by rfl)])
              refine wp_append_run _ _ _ rfl _ _ rfl rfl HAPP.out ?_
              refine hK.out _ _ ?_ (fun hHeld2 => ?_)
              · (try dsimp only); (first | (refine ⟨?_, ?_, ?_⟩ <;> assumption) | go_keep)
              clear hK K hHeld
              rename _ => hHeld
              (try simp only [Act.put, List.getElem_toArray, List.getElem_cons_succ, List.getElem_cons_zero, List.setIfInBounds_toArray, List.set_cons_zero, List.set_cons_succ])
              refine wpAnyH_take (i := 8) (v := ?_) rfl (by kernel_rfl) (by kernel_rfl) (by kernel_rfl) (fun _ _ _ h => h) (Or.inl ⟨by rfl, ?_⟩) hHeld ?_
              rotate_left
              · intro w hSw; (try dsimp only at hSw); go_simp; (try with_reducible rfl)
              (try simp only [Act.put, List.getElem_toArray, List.getElem_cons_succ, List.getElem_cons_zero, List.setIfInBounds_toArray, List.set_cons_zero, List.set_cons_succ])
              refine wpAnyH_take (i := 9) (v := ?_) rfl (by kernel_rfl) (by kernel_rfl) (by kernel_rfl) (fun _ _ _ h => h) (Or.inl ⟨by rfl, ?_⟩) hHeld ?_
              rotate_left
              · intro w hSw; (try dsimp only at hSw); go_simp; (try with_reducible rfl)
              (try simp only [Act.put, List.getElem_toArray, List.getElem_cons_succ, List.getElem_cons_zero, List.setIfInBounds_toArray, List.set_cons_zero, List.set_cons_succ])
              refine wpAnyH_ready (rs := [10]) (by kernel_rfl) (by simp) ?_
              refine (AllReadyH.cons rfl (fun K hK => ?_) AllReadyH.nil)
              go_simp
              refine hK.out _ _ ?_ (fun hHeld2 => ?_)
              · (try dsimp only); (first | (refine ⟨?_, ?_, ?_⟩ <;> assumption) | go_keep)
              clear hK K hHeld
              rename _ => hHeld
              (try simp only [Act.put, List.getElem_toArray, List.getElem_cons_succ, List.getElem_cons_zero, List.setIfInBounds_toArray, List.set_cons_zero, List.set_cons_succ])
              refine wpAnyH_done (by kernel_rfl) ?_ _
              clear hHeld
              rotate_left 1
              all_goals
                go_wp2_with fail
                go_meet
              all_goals
                obtain ⟨⟨hL, hk, _⟩, hown', hgrow', hblk'⟩ := HG.out
                have hkp : ∀ (x : Nat) (o : Obj), wc.heap[x]? = some o → tagOf o ≠ some 143 → tagOf o ≠ some 159 → (W2.setCell ⟨bl, 3, none⟩ (.slice (some ⟨g', 0, none⟩) (G.parts.length + 1) cap')).heap[x]? = some o := fun x o hb h1 h2 =>
                  hk x o hb (by rintro rfl; rw [HC.out.2.1.at_] at hb; cases hb; exact h1 rfl) (own_ne HC.out.2.1.parts hb h2)
                refine ⟨_, _, hL, by simp, HC.out.2.2.1.keeps fun x o hb ht => hkp x o hb (by rcases ht with ht | ht | ht | ht <;> rw [ht] <;> simp) (by rcases ht with ht | ht | ht | ht <;> rw [ht] <;> simp), ?_, HC.out.2.2.2.2.trans (fun x o hb ht _ => hkp x o hb (by rw [ht]; simp) (by rw [ht]; simp))⟩
                have hT := HC.out.2.2.2.1
                have hs2 := hgrow'.size
                refine ⟨hgrow'.os.trans hT.os, hgrow'.tape.trans hT.tape, hgrow'.output.trans hT.output, by have := hT.size; simp [World.setCell] at hs2 ⊢; omega, fun x o hx hc => hk x o (hT.block x o hx hc) ?_ ?_⟩
                · rintro rfl
                  have hb := hT.block _ o hx hc
                  rw [HC.out.2.1.at_] at hb; cases hb
                  rcases hc with hc | hc
                  · have := HC.out.2.1.le; omega
                  · exact hc (by simp [tagOf, TA0])
                · intro he
                  have hb := hT.block _ o hx hc
                  rcases HC.out.2.1.parts.2 with ⟨h1, _⟩ | ⟨g, cp, cur, h1, hgn, hh, _⟩
                  · rw [h1] at he; simp [Value.ownBlock] at he
                  · rw [h1] at he; simp only [Value.ownBlock, Option.some.injEq] at he; subst he; rw [hb] at hh; cases hh
                    rcases hc with hc | hc
                    · omega
                    · exact hc (by simp [tagOf, TA0])
          case rest =>
            obtain ⟨pv', NP, hX, hNP, hD, hT, hbs⟩ := hcut
            obtain ⟨Ar, capr, hrv, -, -, -⟩ := own_slice hX.recs
            subst hrv
            simp only at *
            have e4 := Joins.cell_of_block hX.at_ 4
            have e4' : wc.drew.cell? ⟨bl, 4, none⟩ = some (.slice Ar G.recs.length capr) := by simpa using e4
            simp at e4
            have hlb := heap_lt hX.at_
            obtain ⟨iI, hiI, hzI0, hzI1, hzI2⟩ := info_bytes
            have hnW : n ≤ wc.heap.size := Nat.le_trans H0.out.2.2.2.1 hT.size
            have hq1 : G.recs.length + 1 ≤ maxLen := by unfold maxLen; have := H66.out.2.2.2.2.1; omega
            have hq2 : (G.recs.length + 1) * 24 ≤ 140737488355328 := by have := H66.out.2.2.2.2.1; omega
            have hbl6 : b.length ≤ 65536 := Nat.not_lt.1 H66.out.1
            have HY := Lib.hid (And.intro hX (And.intro hNP (And.intro hD (And.intro hT (And.intro hbs (And.intro hnW (And.intro hq1 (And.intro hq2 hbl6))))))))
            have HI := Lib.hid (And.intro hiI (And.intro hzI0 (And.intro hzI1 hzI2)))
            clear hX hNP hD hT hbs hnW hq1 hq2 hiI hzI0 hzI1 hzI2 hbl6
            go_wp2_with fail
            refine wp_region_held_drew (S := (fun _ => True)) (by kernel_rfl) ?_ (fun hHeld => ?_)
            · trivial
            refine wpAnyH_take (i := 0) (v := ?_) rfl (by kernel_rfl) (by kernel_rfl) (by kernel_rfl) (fun _ _ _ h => h) (Or.inl ⟨by rfl, ?_⟩) hHeld ?_
            rotate_left
            · intro w hSw; (try dsimp only at hSw); go_simp; (try with_reducible rfl)
            (try simp only [Act.put, List.getElem_toArray, List.getElem_cons_succ, List.getElem_cons_zero, List.setIfInBounds_toArray, List.set_cons_zero, List.set_cons_succ])
            refine wpAnyH_take (i := 1) (v := ?_) rfl (by kernel_rfl) (by kernel_rfl) (by kernel_rfl) (fun _ _ _ h => h) (Or.inl ⟨by rfl, ?_⟩) hHeld ?_
            rotate_left
            · intro w hSw; (try dsimp only at hSw); go_simp; (try with_reducible rfl)
            (try simp only [Act.put, List.getElem_toArray, List.getElem_cons_succ, List.getElem_cons_zero, List.setIfInBounds_toArray, List.set_cons_zero, List.set_cons_succ])
            refine wpAnyH_take (i := 2) (v := ?_) rfl (by kernel_rfl) (by kernel_rfl) (by kernel_rfl) (fun _ _ _ h => h) (Or.inl ⟨by rfl, ?_⟩) hHeld ?_
            rotate_left
            · intro w hSw; (try dsimp only at hSw); go_simp; (try with_reducible rfl)
            (try simp only [Act.put, List.getElem_toArray, List.getElem_cons_succ, List.getElem_cons_zero, List.setIfInBounds_toArray, List.set_cons_zero, List.set_cons_succ])
            refine wpAnyH_take (i := 3) (v := ?_) rfl (by kernel_rfl) (by kernel_rfl) (by kernel_rfl) (fun _ _ _ h => h) (Or.inl ⟨by rfl, ?_⟩) hHeld ?_
            rotate_left
            · intro w hSw; (try dsimp only at hSw); go_simp; (try with_reducible rfl)
            (try simp only [Act.put, List.getElem_toArray, List.getElem_cons_succ, List.getElem_cons_zero, List.setIfInBounds_toArray, List.set_cons_zero, List.set_cons_succ])
            refine wpAnyH_take (i := 5) (v := ?_) rfl (by kernel_rfl) (by kernel_rfl) (by kernel_rfl) (fun _ _ _ h => h) (Or.inl ⟨by rfl, ?_⟩) hHeld ?_
            rotate_left
            · intro w hSw; (try dsimp only at hSw); go_simp; (try with_reducible rfl)
            (try simp only [Act.put, List.getElem_toArray, List.getElem_cons_succ, List.getElem_cons_zero, List.setIfInBounds_toArray, List.set_cons_zero, List.set_cons_succ])
            refine wpAnyH_ready (rs := [4, 6]) (by kernel_rfl) (by simp) ?_
            refine (AllReadyH.cons rfl (fun K hK => ?_) (AllReadyH.cons rfl (fun K hK => ?_) AllReadyH.nil))
            go_simp
            refine hK.out _ _ ?_ (fun hHeld2 => ?_)
            · trivial
            clear hK K hHeld
            rename _ => hHeld
            (try simp only [Act.put, List.getElem_toArray, List.getElem_cons_succ, List.getElem_cons_zero, List.setIfInBounds_toArray, List.set_cons_zero, List.set_cons_succ])
            refine wpAnyH_ready (rs := [6]) (by kernel_rfl) (by simp) ?_
            refine (AllReadyH.cons rfl (fun K hK => ?_) AllReadyH.nil)
            go_simp
            refine (bclone_c A b.length cap b rfl wc.drew (by have := HY.out.2.2.2.2.2.2.2.2; omega) (H0.out.2.2.2.2.1.turn HY.out.2.2.2.1 (by simp)).rd).mono ?_
            rintro e w6 ⟨vc, rfl, hown6, hb6⟩
            obtain ⟨Ac, cc, rfl, -, -, -⟩ := own_slice hown6
            have hX6 := HY.out.1.below (bel_drew hb6)
            have f4 := Joins.cell_of_block hX6.at_ 4
            have f4a := Joins.cell_of_block ((Below.heap_alloc w6 (.cells #[.slice Ac b.length cc] 29) _ (heap_lt hX6.at_)).trans hX6.at_) 4
            simp at f4 f4a
            have HC6 := Lib.hid (And.intro hown6 (And.intro (bel_drew hb6) hX6)); clear hown6 hb6 hX6
            (try go_wp2_with fail)
            refine hK.out _ _ ?_ (fun hHeld2 => ?_)
            · trivial
            clear hK K hHeld
            rename _ => hHeld
            (try simp only [Act.put, List.getElem_toArray, List.getElem_cons_succ, List.getElem_cons_zero, List.setIfInBounds_toArray, List.set_cons_zero, List.set_cons_succ])
            refine wpAnyH_ready (rs := [7]) (by kernel_rfl) (by simp) ?_
            refine (AllReadyH.cons rfl (fun K hK => ?_) AllReadyH.nil)
            go_simp
            refine hK.out _ _ ?_ (fun hHeld2 => ?_)
            · trivial
            clear hK K hHeld
            rename _ => hHeld
            (try simp only [Act.put, List.getElem_toArray, List.getElem_cons_succ, List.getElem_cons_zero, List.setIfInBounds_toArray, List.set_cons_zero, List.set_cons_succ])
            refine wpAnyH_ready (rs := [8]) (by kernel_rfl) (by simp) ?_
            refine (AllReadyH.cons rfl (fun K hK => ?_) AllReadyH.nil)
            (try rw [if_pos (by rfl)])
            obtain ⟨rv', W2, happ, hown', hgrow', hblk'⟩ := run_append_rd (P := Tryz.prog) (w6.alloc (.cells #[.slice Ac b.length cc] 29)) n 22 22 29 iI _ 1 24 Tryz.underlying22 HI.out.1 HI.out.2.1 HI.out.2.2.1 HI.out.2.2.2 rfl (by decide) (.slice Ar G.recs.length capr) G.recs.length vs
              (own_below HC6.out.2.2.recs (bnew w6 _)) 0 (some ⟨w6.heap.size, 0, none⟩) 1 1 [.slice Ac b.length cc] rfl (rd_new1 w6 _ _) (by simp [Value.oneCell']) HY.out.2.2.2.2.2.2.1 HY.out.2.2.2.2.2.2.2.1 (Nat.le_trans HY.out.2.2.2.2.2.1 (by have := HC6.out.2.1.size; simp; omega)) (fun h => by cases h)
            obtain ⟨g', cap', rfl⟩ := ownsRow_succ hown'
            refine wp_append_run _ _ _ rfl _ _ rfl rfl happ ?_
            have hAdd := HC6.out.2.2.addRec hown' hgrow' (fun k hk => Below.heap_alloc w6 _ k hk) (hblk'.imp id (fun h => by rw [h]; simp)) (Bs.of_own HC6.out.1) (by have := H66.out.2.2.2.2.1; simp only; omega)
            have b2 := hAdd.2.2.trans HC6.out.2.2.at_
            have c4 := Joins.cell_of_block b2 4
            have cf4 := Joins.unfrozen_of_block b2 4
            have c6 := Joins.cell_of_block b2 6
            have cf6 := Joins.unfrozen_of_block b2 6
            simp at c4 c6
            have HA := Lib.hid (And.intro hAdd (And.intro hgrow' (And.intro happ hblk'))); clear hAdd hgrow' hown' hblk' happ b2
            refine hK.out _ _ ?_ (fun hHeld2 => ?_)
            · trivial
            clear hK K hHeld
            rename _ => hHeld
            (try simp only [Act.put, List.getElem_toArray, List.getElem_cons_succ, List.getElem_cons_zero, List.setIfInBounds_toArray, List.set_cons_zero, List.set_cons_succ])
            refine wpAnyH_take (i := 9) (v := ?_) rfl (by kernel_rfl) (by kernel_rfl) (by kernel_rfl) (fun _ _ _ h => h) (Or.inl ⟨by rfl, ?_⟩) hHeld ?_
            rotate_left
            · intro w hSw; (try dsimp only at hSw); go_simp; (try with_reducible rfl)
            (try simp only [Act.put, List.getElem_toArray, List.getElem_cons_succ, List.getElem_cons_zero, List.setIfInBounds_toArray, List.set_cons_zero, List.set_cons_succ])
            refine wpAnyH_take (i := 10) (v := ?_) rfl (by kernel_rfl) (by kernel_rfl) (by kernel_rfl) (fun _ _ _ h => h) (Or.inl ⟨by rfl, ?_⟩) hHeld ?_
            rotate_left
            · intro w hSw; (try dsimp only at hSw); go_simp; (try with_reducible rfl)
            (try simp only [Act.put, List.getElem_toArray, List.getElem_cons_succ, List.getElem_cons_zero, List.setIfInBounds_toArray, List.set_cons_zero, List.set_cons_succ])
            refine wpAnyH_ready (rs := [11]) (by kernel_rfl) (by simp) ?_
            refine (AllReadyH.cons rfl (fun K hK => ?_) AllReadyH.nil)
            go_simp
            refine hK.out _ _ ?_ (fun hHeld2 => ?_)
            · trivial
            clear hK K hHeld
            rename _ => hHeld
            (try simp only [Act.put, List.getElem_toArray, List.getElem_cons_succ, List.getElem_cons_zero, List.setIfInBounds_toArray, List.set_cons_zero, List.set_cons_succ])
            refine wpAnyH_done (by kernel_rfl) ?_ _
            clear hHeld
            rotate_left 1
            go_simp
            refine (bclone_c A b.length cap b rfl wc.drew (by have := HY.out.2.2.2.2.2.2.2.2; omega) (H0.out.2.2.2.2.1.turn HY.out.2.2.2.1 (by simp)).rd).mono ?_
            rintro e w6 ⟨vc, rfl, hown6, hb6⟩
            obtain ⟨Ac, cc, rfl, -, -, -⟩ := own_slice hown6
            have hX6 := HY.out.1.below (bel_drew hb6)
            have f4 := Joins.cell_of_block hX6.at_ 4
            have f4a := Joins.cell_of_block ((Below.heap_alloc w6 (.cells #[.slice Ac b.length cc] 29) _ (heap_lt hX6.at_)).trans hX6.at_) 4
            simp at f4 f4a
            have HC6 := Lib.hid (And.intro hown6 (And.intro (bel_drew hb6) hX6)); clear hown6 hb6 hX6
            (try go_wp2_with fail)
            refine hK.out _ _ ?_ (fun hHeld2 => ?_)
            · trivial
            clear hK K hHeld
            rename _ => hHeld
            (try simp only [Act.put, List.getElem_toArray, List.getElem_cons_succ, List.getElem_cons_zero, List.setIfInBounds_toArray, List.set_cons_zero, List.set_cons_succ])
            refine wpAnyH_ready (rs := [4, 7]) (by kernel_rfl) (by simp) ?_
            refine (AllReadyH.cons rfl (fun K hK => ?_) (AllReadyH.cons rfl (fun K hK => ?_) AllReadyH.nil))
            go_simp
            refine hK.out _ _ ?_ (fun hHeld2 => ?_)
            · trivial
            clear hK K hHeld
            rename _ => hHeld
            (try simp only [Act.put, List.getElem_toArray, List.getElem_cons_succ, List.getElem_cons_zero, List.setIfInBounds_toArray, List.set_cons_zero, List.set_cons_succ])
            refine wpAnyH_ready (rs := [7]) (by kernel_rfl) (by simp) ?_
            refine (AllReadyH.cons rfl (fun K hK => ?_) AllReadyH.nil)
            go_simp
            refine hK.out _ _ ?_ (fun hHeld2 => ?_)
            · trivial
            clear hK K hHeld
            rename _ => hHeld
            (try simp only [Act.put, List.getElem_toArray, List.getElem_cons_succ, List.getElem_cons_zero, List.setIfInBounds_toArray, List.set_cons_zero, List.set_cons_succ])
            refine wpAnyH_ready (rs := [8]) (by kernel_rfl) (by simp) ?_
            refine (AllReadyH.cons rfl (fun K hK => ?_) AllReadyH.nil)
            (try rw [if_pos (by rfl)])
            obtain ⟨rv', W2, happ, hown', hgrow', hblk'⟩ := run_append_rd (P := Tryz.prog) (w6.alloc (.cells #[.slice Ac b.length cc] 29)) n 22 22 29 iI _ 1 24 Tryz.underlying22 HI.out.1 HI.out.2.1 HI.out.2.2.1 HI.out.2.2.2 rfl (by decide) (.slice Ar G.recs.length capr) G.recs.length vs
              (own_below HC6.out.2.2.recs (bnew w6 _)) 0 (some ⟨w6.heap.size, 0, none⟩) 1 1 [.slice Ac b.length cc] rfl (rd_new1 w6 _ _) (by simp [Value.oneCell']) HY.out.2.2.2.2.2.2.1 HY.out.2.2.2.2.2.2.2.1 (Nat.le_trans HY.out.2.2.2.2.2.1 (by have := HC6.out.2.1.size; simp; omega)) (fun h => by cases h)
            obtain ⟨g', cap', rfl⟩ := ownsRow_succ hown'
            refine wp_append_run _ _ _ rfl _ _ rfl rfl happ ?_
            have hAdd := HC6.out.2.2.addRec hown' hgrow' (fun k hk => Below.heap_alloc w6 _ k hk) (hblk'.imp id (fun h => by rw [h]; simp)) (Bs.of_own HC6.out.1) (by have := H66.out.2.2.2.2.1; simp only; omega)
            have b2 := hAdd.2.2.trans HC6.out.2.2.at_
            have c4 := Joins.cell_of_block b2 4
            have cf4 := Joins.unfrozen_of_block b2 4
            have c6 := Joins.cell_of_block b2 6
            have cf6 := Joins.unfrozen_of_block b2 6
            simp at c4 c6
            have HA := Lib.hid (And.intro hAdd (And.intro hgrow' (And.intro happ hblk'))); clear hAdd hgrow' hown' hblk' happ b2
            refine hK.out _ _ ?_ (fun hHeld2 => ?_)
            · trivial
            clear hK K hHeld
            rename _ => hHeld
            (try simp only [Act.put, List.getElem_toArray, List.getElem_cons_succ, List.getElem_cons_zero, List.setIfInBounds_toArray, List.set_cons_zero, List.set_cons_succ])
            refine wpAnyH_take (i := 9) (v := ?_) rfl (by kernel_rfl) (by kernel_rfl) (by kernel_rfl) (fun _ _ _ h => h) (Or.inl ⟨by rfl, ?_⟩) hHeld ?_
            rotate_left
            · intro w hSw; (try dsimp only at hSw); go_simp; (try with_reducible rfl)
            (try simp only [Act.put, List.getElem_toArray, List.getElem_cons_succ, List.getElem_cons_zero, List.setIfInBounds_toArray, List.set_cons_zero, List.set_cons_succ])
            refine wpAnyH_take (i := 10) (v := ?_) rfl (by kernel_rfl) (by kernel_rfl) (by kernel_rfl) (fun _ _ _ h => h) (Or.inl ⟨by rfl, ?_⟩) hHeld ?_
            rotate_left
            · intro w hSw; (try dsimp only at hSw); go_simp; (try with_reducible rfl)
            (try simp only [Act.put, List.getElem_toArray, List.getElem_cons_succ, List.getElem_cons_zero, List.setIfInBounds_toArray, List.set_cons_zero, List.set_cons_succ])
            refine wpAnyH_ready (rs := [11]) (by kernel_rfl) (by simp) ?_
            refine (AllReadyH.cons rfl (fun K hK => ?_) AllReadyH.nil)
            go_simp
            refine hK.out _ _ ?_ (fun hHeld2 => ?_)
            · trivial
            clear hK K hHeld
            rename _ => hHeld
            (try simp only [Act.put, List.getElem_toArray, List.getElem_cons_succ, List.getElem_cons_zero, List.setIfInBounds_toArray, List.set_cons_zero, List.set_cons_succ])
            refine wpAnyH_done (by kernel_rfl) ?_ _
            clear hHeld
            rotate_left 1
            go_simp
            refine hK.out _ _ ?_ (fun hHeld2 => ?_)
            · trivial
            clear hK K hHeld
            rename _ => hHeld
            (try simp only [Act.put, List.getElem_toArray, List.getElem_cons_succ, List.getElem_cons_zero, List.setIfInBounds_toArray, List.set_cons_zero, List.set_cons_succ])
            refine wpAnyH_ready (rs := [4]) (by kernel_rfl) (by simp) ?_
            refine (AllReadyH.cons rfl (fun K hK => ?_) AllReadyH.nil)
            go_simp
            refine hK.out _ _ ?_ (fun hHeld2 => ?_)
            · trivial
            clear hK K hHeld
            rename _ => hHeld
            (try simp only [Act.put, List.getElem_toArray, List.getElem_cons_succ, List.getElem_cons_zero, List.setIfInBounds_toArray, List.set_cons_zero, List.set_cons_succ])
            refine wpAnyH_ready (rs := [8]) (by kernel_rfl) (by simp) ?_
            refine (AllReadyH.cons rfl (fun K hK => ?_) AllReadyH.nil)
            (try rw [if_pos (by rfl)])
            obtain ⟨rv', W2, happ, hown', hgrow', hblk'⟩ := run_append_rd (P := Tryz.prog) (w6.alloc (.cells #[.slice Ac b.length cc] 29)) n 22 22 29 iI _ 1 24 Tryz.underlying22 HI.out.1 HI.out.2.1 HI.out.2.2.1 HI.out.2.2.2 rfl (by decide) (.slice Ar G.recs.length capr) G.recs.length vs
              (own_below HC6.out.2.2.recs (bnew w6 _)) 0 (some ⟨w6.heap.size, 0, none⟩) 1 1 [.slice Ac b.length cc] rfl (rd_new1 w6 _ _) (by simp [Value.oneCell']) HY.out.2.2.2.2.2.2.1 HY.out.2.2.2.2.2.2.2.1 (Nat.le_trans HY.out.2.2.2.2.2.1 (by have := HC6.out.2.1.size; simp; omega)) (fun h => by cases h)
            obtain ⟨g', cap', rfl⟩ := ownsRow_succ hown'
            refine wp_append_run _ _ _ rfl _ _ rfl rfl happ ?_
            have hAdd := HC6.out.2.2.addRec hown' hgrow' (fun k hk => Below.heap_alloc w6 _ k hk) (hblk'.imp id (fun h => by rw [h]; simp)) (Bs.of_own HC6.out.1) (by have := H66.out.2.2.2.2.1; simp only; omega)
            have b2 := hAdd.2.2.trans HC6.out.2.2.at_
            have c4 := Joins.cell_of_block b2 4
            have cf4 := Joins.unfrozen_of_block b2 4
            have c6 := Joins.cell_of_block b2 6
            have cf6 := Joins.unfrozen_of_block b2 6
            simp at c4 c6
            have HA := Lib.hid (And.intro hAdd (And.intro hgrow' (And.intro happ hblk'))); clear hAdd hgrow' hown' hblk' happ b2
            refine hK.out _ _ ?_ (fun hHeld2 => ?_)
            · trivial
            clear hK K hHeld
            rename _ => hHeld
            (try simp only [Act.put, List.getElem_toArray, List.getElem_cons_succ, List.getElem_cons_zero, List.setIfInBounds_toArray, List.set_cons_zero, List.set_cons_succ])
            refine wpAnyH_take (i := 9) (v := ?_) rfl (by kernel_rfl) (by kernel_rfl) (by kernel_rfl) (fun _ _ _ h => h) (Or.inl ⟨by rfl, ?_⟩) hHeld ?_
            rotate_left
            · intro w hSw; (try dsimp only at hSw); go_simp; (try with_reducible rfl)
            (try simp only [Act.put, List.getElem_toArray, List.getElem_cons_succ, List.getElem_cons_zero, List.setIfInBounds_toArray, List.set_cons_zero, List.set_cons_succ])
            refine wpAnyH_take (i := 10) (v := ?_) rfl (by kernel_rfl) (by kernel_rfl) (by kernel_rfl) (fun _ _ _ h => h) (Or.inl ⟨by rfl, ?_⟩) hHeld ?_
            rotate_left
            · intro w hSw; (try dsimp only at hSw); go_simp; (try with_reducible rfl)
            (try simp only [Act.put, List.getElem_toArray, List.getElem_cons_succ, List.getElem_cons_zero, List.setIfInBounds_toArray, List.set_cons_zero, List.set_cons_succ])
            refine wpAnyH_ready (rs := [11]) (by kernel_rfl) (by simp) ?_
            refine (AllReadyH.cons rfl (fun K hK => ?_) AllReadyH.nil)
            go_simp
            refine hK.out _ _ ?_ (fun hHeld2 => ?_)
            · trivial
            clear hK K hHeld
            rename _ => hHeld
            (try simp only [Act.put, List.getElem_toArray, List.getElem_cons_succ, List.getElem_cons_zero, List.setIfInBounds_toArray, List.set_cons_zero, List.set_cons_succ])
            refine wpAnyH_done (by kernel_rfl) ?_ _
            clear hHeld
            rotate_left 1
            all_goals
              go_wp2_with fail
              go_ret
              have hR := HW.out.2.2.2.2.2.2.2.1
              rw [← hR]
              obtain ⟨hL, hk, _⟩ := HA.out.1
              have hgrow' := HA.out.2.1
              have hLd := hL.dirt true
              have hkF : ∀ (x : Nat) (o : Obj), w6.heap[x]? = some o → x ≠ bl → (Value.slice Ar G.recs.length capr).ownBlock ≠ some x → ((W2.setCell ⟨bl, 4, none⟩ (.slice (some ⟨g', 0, none⟩) (G.recs.length + 1) cap')).setCell ⟨bl, 6, none⟩ (.bool true)).heap[x]? = some o := fun x o hb h1 h2 => heap_setCell_ne' (hk x o hb h1 h2) h1
              have hkp : ∀ (x : Nat) (o : Obj), w6.heap[x]? = some o → tagOf o ≠ some 143 → tagOf o ≠ some 29 → ((W2.setCell ⟨bl, 4, none⟩ (.slice (some ⟨g', 0, none⟩) (G.recs.length + 1) cap')).setCell ⟨bl, 6, none⟩ (.bool true)).heap[x]? = some o := fun x o hb h1 h2 =>
                hkF x o hb (by rintro rfl; rw [HC6.out.2.2.at_] at hb; cases hb; exact h1 rfl) (own_ne HC6.out.2.2.recs hb h2)
              have hD6 := HY.out.2.2.1.below HC6.out.2.1
              have hT6 := HY.out.2.2.2.1.bel HC6.out.2.1
              rw [HY.out.2.1] at hLd
              refine ⟨rfl, hD6.keeps fun x o hb ht => hkp x o hb (by rcases ht with ht | ht | ht | ht <;> rw [ht] <;> simp) (by rcases ht with ht | ht | ht | ht <;> rw [ht] <;> simp), ⟨_, _, _, hLd, ?_⟩, ?_, fun x o hx ht hr => hkF x o (hT6.block x o hx (.inr (by rw [ht]; simp))) (by rintro rfl; have hb := hT6.block _ o hx (.inr (by rw [ht]; simp)); rw [HC6.out.2.2.at_] at hb; cases hb; simp [tagOf] at ht) hr, MapK.trans (by have h := HY.out.2.2.2.2.1; rw [← hR] at h; exact h) ((MapK.of_below HC6.out.2.1).trans (fun x o hb ht _ => hkp x o hb (by rw [ht]; simp) (by rw [ht]; simp)))⟩
              · exact HA.out.2.2.2.imp id (fun h => ⟨_, h, by have := hT6.size; simp; omega⟩)
              have hs2 := hgrow'.size
              refine ⟨hgrow'.os.trans hT6.os, hgrow'.tape.trans hT6.tape, hgrow'.output.trans hT6.output, by have := hT6.size; simp [World.setCell] at hs2 ⊢; omega, fun x o hx hc => hkF x o (hT6.block x o hx (hc.imp id ta0_sub)) ?_ ?_⟩
              · rintro rfl
                have hb := hT6.block _ o hx (hc.imp id ta0_sub)
                rw [HC6.out.2.2.at_] at hb; cases hb
                rcases hc with hc | hc
                · have := HC6.out.2.2.le; omega
                · exact hc (by simp [tagOf, TAp])
              · intro he
                have hb := hT6.block _ o hx (hc.imp id ta0_sub)
                rcases HC6.out.2.2.recs.2 with ⟨h1, _⟩ | ⟨g, cp, cur, h1, hgn, hh, _⟩
                · rw [h1] at he; simp [Value.ownBlock] at he
                · rw [h1] at he; simp only [Value.ownBlock, Option.some.injEq] at he; subst he; rw [hb] at hh; cases hh
                  rcases hc with hc | hc
                  · omega
                  · exact hc (by simp [tagOf, TAp])
      · have hap' : AP.2 ≠ 0 := hap
        go_wp2_with fail
        go_ret
        have hlay := HN.out.1
        rw [if_pos hap'] at hlay
        rw [← hlay]
        exact AppX.of0 rfl H8.out.1 H8.out.2.2.1 HT8.out (by have h := HMK.out; rw [← hlay] at h; exact h)

theorem wapp_c (n bl bd : Nat) (D : DiskM) (G : LogM) (b : List UInt8) (v : Value) (w : World) (hD : DiskR n w bd D) (hL : LogR n w bl bd G) (hg : Glob n w) (hn : n ≤ w.heap.size) (hb : Bn n w v b)
    (hfr : ∀ p ∈ G.parts, (0 ≤ p.frm ∧ p.frm ≤ 9223372036854775807) ∧ p.many ≤ 1099511627776 ∧ p.size ≤ 1099511627776) (hfew : G.recs.length ≤ 549755813888 ∧ G.parts.length ≤ 549755813888) :
    Calls Tryz.prog 86 #[.pointer (some ⟨bl, 0, none⟩), v] w fun e w' =>
      e = .returned (.int .i64 (LogM.append D G b).2.2) ∧ DiskR n w' bd (LogM.append D G b).1 ∧ LogR n w' bl bd (LogM.append D G b).2.1 ∧ Turn n TAp w w' ∧ MapK (LogM.append D G b).1.mp w w' := by
  obtain ⟨pv, rv, vs, hX⟩ := hL
  refine (wappX_c n bl bd D G b v w hD pv rv vs hX hg hn hb hfr hfew).mono ?_
  rintro e w' ⟨h1, h2, ⟨pv', rv', vs', h3, _⟩, h4, _, h5⟩
  exact ⟨h1, h2, ⟨_, _, _, h3⟩, h4, h5⟩
end Go.Proofs.YtnljhabpcoiihaaGreatDoor
