/- alive. -/
import Derived.Test.YtjpcmgoajdjkgaaGreatDoorAlP
set_option linter.all false
namespace Go.Proofs.YtjpcmgoajdjkgaaGreatDoor
open Go.RowKit

theorem Glob.mono {n m : Nat} {w : World} (h : Glob n w) (hm : n ≤ m) : Glob m w := fun W hW => h W fun k hk => hW k (by omega)
theorem nil_bs (w : World) : Bs 5 w (.slice none 0 0) [] := Bs.nil _ _
theorem own1 {w : World} {n : Nat} (x : UInt8) : Bs 5 (w.alloc (.cells #[.int .u8 (x.toNat : Int)] 5 (1, 2))) (.slice (some ⟨w.heap.size, 0, none⟩) 1 1) [x] :=
  ⟨_, 1, rfl, Nat.le_refl _, by simp [maxLen], .inr ⟨_, 0, _, _, rfl, heap_alloc_new w _, fun k hk => by
    have : k = 0 := by simpa using hk
    subst this; rfl⟩⟩

theorem open_some {n bd : Nat} {w : World} {D D' : DiskM} {G' : LogM} {name : List UInt8} {most : Int} (hnm : name.length ≤ 1048576) (hD : DiskR n w bd D) (hg : Glob n w) (hn : n ≤ w.heap.size) (h : openM D name most = (D', some G', 0)) :
    Calls Tryz.prog 24 #[.pointer (some ⟨bd, 0, none⟩), .string ⟨name.toArray⟩, .int .i64 most] w fun e w' =>
      ∃ bl, e = .returned (.tuple #[.pointer (some ⟨bl, 0, none⟩), .int .i64 0]) ∧ LogR n w' bl bd G' ∧ DiskR n w' bd D' ∧ Below n w w' := by
  refine (open_c n bd D name most hnm w hD hg hn).mono ?_
  rw [h]
  rintro e w' ⟨⟨bl, rfl, _, hL⟩, hD', hT⟩
  exact ⟨bl, rfl, hL, hD', hT.below hn⟩
theorem app_ok {n bl bd : Nat} {w : World} {D D' : DiskM} {G G' : LogM} {b : List UInt8} {v : Value} (hD : DiskR n w bd D) (hL : LogR n w bl bd G) (hg : Glob n w) (hn : n ≤ w.heap.size) (hb : Bn n w v b)
    (hfr : ∀ p ∈ G.parts, (0 ≤ p.frm ∧ p.frm ≤ 9223372036854775807) ∧ p.many ≤ 1099511627776 ∧ p.size ≤ 1099511627776) (hfew : G.recs.length ≤ 549755813888 ∧ G.parts.length ≤ 549755813888) (h : LogM.append D G b = (D', G', 0)) :
    Calls Tryz.prog 30 #[.pointer (some ⟨bl, 0, none⟩), v] w fun e w' => e = .returned (.int .i64 0) ∧ LogR n w' bl bd G' ∧ DiskR n w' bd D' ∧ Below n w w' := by
  refine (wapp_c n bl bd D G b v w hD hL hg hn hb hfr hfew).mono ?_
  rw [h]
  rintro e w' ⟨rfl, hD', hL', hT⟩
  exact ⟨rfl, hL', hD', hT.below hn⟩
theorem sync_ok {n bl bd : Nat} {w : World} {D D' : DiskM} {G G' : LogM} (hD : DiskR n w bd D) (hL : LogR n w bl bd G) (hg : Glob n w) (hn : n ≤ w.heap.size)
    (hfr : ∀ p ∈ G.parts, 0 ≤ p.frm ∧ p.frm ≤ 9223372036854775807) (h : LogM.sync D G = (D', G', 0)) :
    Calls Tryz.prog 31 #[.pointer (some ⟨bl, 0, none⟩)] w fun e w' => e = .returned (.int .i64 0) ∧ LogR n w' bl bd G' ∧ DiskR n w' bd D' ∧ Below n w w' := by
  refine (wsync_c n bl bd D G w hD hL hg hn hfr).mono ?_
  rw [h]
  rintro e w' ⟨rfl, hD', hL', hT⟩
  exact ⟨rfl, hL', hD', hT.below hn⟩
theorem parts_ok {l : List (List UInt8)} {m : Nat} {d : Bool} (h1 : l.length ≤ 1000) (h2 : m ≤ 1000) : (∀ p ∈ (aG l m d).parts, (0 ≤ p.frm ∧ p.frm ≤ 9223372036854775807) ∧ p.many ≤ 1099511627776 ∧ p.size ≤ 1099511627776) ∧ (aG l m d).recs.length ≤ 549755813888 ∧ (aG l m d).parts.length ≤ 549755813888 := by
  refine ⟨fun p hp => ?_, Nat.le_trans h1 (by decide), (by decide : 1 ≤ 549755813888)⟩
  have : p = ⟨0, l.length, m⟩ := by simpa [aG] using hp
  subst this
  exact ⟨(by decide : (0 : Int) ≤ 0 ∧ (0 : Int) ≤ 9223372036854775807), Nat.le_trans h1 (by decide), Nat.le_trans h2 (by decide)⟩

theorem conv1 (x : Value) (w : World) : (convert 22 22 (.slice (some ⟨w.heap.size, 0, none⟩) 1 1)).run Tryz.prog (w.alloc (.cells #[x] 5)) = .ok (.slice (some ⟨w.heap.size, 0, none⟩) 1 1) (w.alloc (.cells #[x] 5 (1, 2))) :=
  Lib.run_convert_bytes_const w 22 5 #[x] 1 1 Tryz.underlying22 (by kernel_rfl)

structure Al (n : Nat) (w : World) (bd : Nat) (D : DiskM) (wk : World) : Prop where
  below : Below n w wk
  size : n ≤ wk.heap.size
  glob : Glob n wk
  disk : DiskR n wk bd D
theorem Al.go {n bd : Nat} {w wk wj : World} {D D' : DiskM} (h : Al n w bd D wk) (hb : Below n wk wj) (hD : DiskR n wj bd D') : Al n w bd D' wj :=
  ⟨h.below.trans hb, Nat.le_trans h.size hb.size, h.glob.below hb, hD⟩
theorem Al.stay {n bd : Nat} {w wk wj : World} {D : DiskM} (h : Al n w bd D wk) (hb : Below wk.heap.size wk wj) : Al n w bd D wj := h.go (hb.mono h.size) (h.disk.below hb)

theorem bdrewQ (w : World) (k : Nat) : Below w.heap.size w (w.drewN k) := ⟨rfl, rfl, rfl, Nat.le_refl _, fun _ _ => rfl⟩
theorem BytesR.rd1 {n : Nat} {w : World} {A : Option Addr} {m c : Nat} {l : List UInt8} (h : BytesR n w (.slice A m c) l) : Rd n w A (bytesV l) := h.rd

set_option maxRecDepth 100000 in
set_option maxHeartbeats 800000 in
theorem alive_c (w : World) (hg : Glob w.heap.size w) :
    Calls Tryz.prog 19 #[] w fun e w' => e = .returned (.bool true) ∧ Below w.heap.size w w' := by
  obtain ⟨n, hn⟩ : ∃ n, w.heap.size = n := ⟨_, rfl⟩
  rw [hn] at hg ⊢
  have HG := Lib.hid (And.intro hg hn); clear hg hn
  go_enter Tryz.func19, Tryz.ntmps19
  have hcs := conv1
  go_wp2_with fail
  refine (new_c 1000 (by decide) (by decide) w).mono ?_
  rintro e w1 ⟨bd, rfl, hbd, hD1, hb1⟩
  rw [HG.out.2] at hD1 hb1
  have H1 := Lib.hid (show Al n w bd (DiskM.new 1000) w1 from ⟨hb1, Nat.le_trans (Nat.le_of_eq HG.out.2.symm) hb1.size, HG.out.1.below hb1, hD1⟩)
  clear hbd hD1 hb1
  go_wp2_with fail
  refine (open_some (name := LOG) (by decide) H1.out.disk H1.out.glob H1.out.size al_open0).mono ?_
  rintro e w2 ⟨bl, rfl, hL2, hD2, hb2⟩
  have H2 := Lib.hid (And.intro (H1.out.go hb2 hD2) hL2)
  clear hL2 hD2 hb2
  go_wp2_with fail
  refine (app_ok (H2.out.1.stay (bnew w2 _)).disk (H2.out.2.below (bnew w2 _)) (H2.out.1.stay (bnew w2 _)).glob (H2.out.1.stay (bnew w2 _)).size ((own1 (w := w2) (n := n) 97).bn n) (by intro p hp; simp [LogM.new] at hp) (by decide) al_app1).mono ?_
  rintro e w3 ⟨rfl, hL3, hD3, hb3⟩
  have H3 := Lib.hid (And.intro ((H2.out.1.stay (bnew w2 _)).go hb3 hD3) hL3)
  clear hL3 hD3 hb3
  go_wp2_with fail
  refine (sync_ok H3.out.1.disk H3.out.2 H3.out.1.glob H3.out.1.size (fun p hp => ((parts_ok (by decide) (by decide)).1 p hp).1) (al_sync (Wal.frameB [97]) [[97]])).mono ?_
  rintro e w4 ⟨rfl, hL4, hD4, hb4⟩
  have H4 := Lib.hid (And.intro (H3.out.1.go hb4 hD4) hL4)
  clear hL4 hD4 hb4
  go_wp2_with fail
  refine (app_ok (H4.out.1.stay (bnew w4 _)).disk (H4.out.2.below (bnew w4 _)) (H4.out.1.stay (bnew w4 _)).glob (H4.out.1.stay (bnew w4 _)).size ((own1 (w := w4) (n := n) 98).bn n) (parts_ok (by decide) (by decide)).1 (parts_ok (by decide) (by decide)).2 al_app2).mono ?_
  rintro e w5 ⟨rfl, hL5, hD5, hb5⟩
  have H5 := Lib.hid (And.intro ((H4.out.1.stay (bnew w4 _)).go hb5 hD5) hL5)
  clear hL5 hD5 hb5
  go_wp2_with fail
  refine (boot_c n bd _ [] none 0 0 rfl (by decide) w5 H5.out.1.disk (fun W _ => Rd.nil _ _ _)).mono ?_
  rintro e w6 ⟨rfl, hD6, hT6⟩
  rw [al_boot] at hD6
  have H6 := Lib.hid (H5.out.1.go (hT6.below H5.out.1.size) hD6)
  clear hD6 hT6
  go_wp2_with fail
  refine (open_some (name := LOG) (by decide) H6.out.disk H6.out.glob H6.out.size al_open1).mono ?_
  rintro e w7 ⟨bk, rfl, hL7, hD7, hb7⟩
  have H7 := Lib.hid (And.intro (H6.out.go hb7 hD7) hL7)
  clear hL7 hD7 hb7
  go_wp2_with fail
  refine (get_c n bk bd (aG [[97]] 13 false) 0 (by decide) (by decide) w7 H7.out.2 (by decide)).mono ?_
  rintro e w8 ⟨v8, rfl, hv8, hb8⟩
  rw [al_get] at hv8 ⊢
  obtain ⟨A8, c8, rfl, hr8⟩ : ∃ A c, v8 = .slice A 1 c ∧ Rd 0 w8 A (bytesV [97]) := by
    obtain ⟨A, c, h1, _, h2⟩ := hv8.toR
    exact ⟨A, c, h1, h2⟩
  have H8 := Lib.hid (And.intro (H7.out.1.stay hb8) (And.intro (H7.out.2.below hb8) hr8))
  have hs8 := run_convert_rd 0 w8 A8 1 c8 [97] rfl hr8
  clear hv8 hb8 hr8
  go_wp2_with fail
  refine (end_c n bk bd (aG [[97]] 13 false) w8 H8.out.2.1).mono ?_
  rintro e w9 ⟨rfl, q, rfl⟩
  rw [al_fin]
  have H9 := Lib.hid (H8.out.1.stay (bdrewQ w8 q))
  generalize w8.drewN q = w9 at H9 ⊢
  go_wp2_with fail
  have hf := file_c n LOG (by decide) 0 (by decide) (by decide) w9 H9.out.glob
  rw [file0] at hf
  refine hf.mono ?_
  rintro e w10 ⟨rfl, hb10⟩
  have H10 := Lib.hid (H9.out.stay hb10)
  clear hf hb10
  go_wp2_with fail
  have hsum := sum_c (some ⟨w10.heap.size, 0, none⟩) 1 [97] 1 rfl (by decide) _ ((own1 (w := w10) (n := n) 97).toR.rd1)
  rw [al_sum] at hsum
  refine hsum.mono ?_
  rintro e w11 ⟨rfl, rfl⟩
  clear hsum
  go_wp2_with fail
  go_ret
  exact ⟨rfl, (H10.out.stay (bnew w10 _)).below⟩
end Go.Proofs.YtjpcmgoajdjkgaaGreatDoor
