/- What alive reckons, plain. alive. -/
import Derived.Test.YtnljhabpcoiihaaGreatDoorOpenW
import Derived.Test.YtnljhabpcoiihaaGreatDoorLApp
set_option linter.all false
namespace Go.Proofs.YtnljhabpcoiihaaGreatDoor
open Go.RowKit
open Wal (frameB fourB numB nextB crc)

theorem drp {α : Type} {A B : List α} {n : Nat} (h : A.length = n) : (A ++ B).drop n = B := by subst h; exact List.drop_left
theorem tke {α : Type} {A B : List α} {n : Nat} (h : A.length = n) : (A ++ B).take n = A := by subst h; exact List.take_left
theorem nextB_frame (b r : List UInt8) (h : b.length ≤ 65536) : nextB (frameB b ++ r) = (some b, 12 + b.length, 0) := by
  have hm : b.length % 4294967296 = b.length := by omega
  have hlen : (frameB b ++ r).length = 12 + b.length + r.length := by rw [List.length_append, Wal.frameB_length]
  have h4 : (frameB b ++ r).take 4 = fourB b.length := by
    unfold frameB; rw [hm, List.append_assoc, List.append_assoc, List.append_assoc]
    exact tke rfl
  have h8 : ((frameB b ++ r).drop 4).take 4 = fourB (crc (fourB b.length)) := by
    unfold frameB; rw [hm, List.append_assoc, List.append_assoc, List.append_assoc, drp (n := 4) (A := fourB b.length) rfl]
    exact tke rfl
  have h12 : ((frameB b ++ r).drop 8).take 4 = fourB (crc b) := by
    unfold frameB; rw [hm, List.append_assoc, List.append_assoc (fourB b.length ++ fourB (crc (fourB b.length))), drp (n := 8) (A := fourB b.length ++ fourB (crc (fourB b.length))) rfl]
    exact tke rfl
  have hb : (frameB b ++ r).drop 12 = b ++ r := by
    unfold frameB; rw [hm, List.append_assoc, drp (n := 12) (A := fourB b.length ++ fourB (crc (fourB b.length)) ++ fourB (crc b)) rfl]
  have hn : numB (fourB b.length) = b.length := Wal.numB_four _ (by omega)
  unfold nextB
  rw [hlen, h4, h8, h12, hb, hn, tke (A := b) (n := b.length) rfl, if_neg (by omega), if_neg (by simp; omega), if_neg (by omega), if_neg (by simp)]

theorem seqF_frame (b : List UInt8) (h : b.length ≤ 65536) (f : Nat) (r : List UInt8) : seqF (f + 1) (frameB b ++ r) = (b, 12 + b.length, 0) :: seqF f r := by
  rw [seqF, nextB_frame b r h]
  have hne : frameB b ++ r ≠ [] := by
    intro e
    have := congrArg List.length e
    rw [List.length_append, Wal.frameB_length] at this
    simp at this
  rw [if_neg hne]
  simp only [Option.getD_some, if_true]
  congr 1
  congr 1
  exact drp (by rw [Wal.frameB_length])
theorem seqF_nil (f : Nat) : seqF f [] = [] := by cases f <;> simp [seqF]

theorem names_one {D : DiskM} {f : FileM} (h : D.files = [f]) : D.names = [f.name] := by
  unfold DiskM.names; rw [h]; simp
theorem names_nil {D : DiskM} (h : D.files = []) : D.names = [] := by
  unfold DiskM.names; rw [h]; simp

def LOG : List UInt8 := [108, 111, 103]
def LOG0 : List UInt8 := [108, 111, 103, 46, 48]
theorem dig0 : Go.Lib.decDigits 0 = [48] := by rw [Go.Lib.decDigits]; rfl
theorem file0 : Wal.fileB LOG 0 = LOG0 := by
  unfold Wal.fileB
  rw [if_neg (by decide)]
  show LOG ++ [46] ++ Go.Lib.decDigits 0 = LOG0
  rw [dig0]; rfl
theorem num0 : numOf LOG LOG0 = some 0 := by
  unfold numOf
  rw [if_pos (by decide), if_neg (by decide)]
  have : Go.Lib.atoiAll (LOG0.drop (LOG.length + 1)) = .ok 0 := by decide
  rw [this]
  simp only [file0, if_true]
theorem dn0 : dnameB LOG0 = true := by decide
theorem nm0 : Wal.nameB LOG = true := by decide

def aF (b : List UInt8) (s : Nat) : FileM := ⟨LOG0, b, s⟩
def aD (b : List UInt8) (s : Nat) (k : Int) : DiskM := { room := 1000, files := [aF b s], plan := [], steps := k, down := false }
def aG (l : List (List UInt8)) (m : Nat) (d : Bool) : LogM := { name := LOG, most := 100, parts := [⟨0, l.length, m⟩], recs := l, first := 0, dirty := d }

theorem step_plain {D : DiskM} (h : D.plan = []) (hd : D.down = false) : D.step true = (D.tick, 0) := by
  unfold DiskM.step
  rw [hd, h]
  simp [planAt]
theorem al_open0 : openM (DiskM.new 1000) LOG 100 = (DiskM.new 1000, some (LogM.new LOG 100), 0) := by
  unfold openM
  rw [nm0, if_neg (by simp), if_neg (by simp [DiskM.new]), names_nil rfl]
  simp [numbersB, openAll]
theorem al_app1 : LogM.append (DiskM.new 1000) (LogM.new LOG 100) [97] = (aD (frameB [97]) 0 1, aG [[97]] 13 true, 0) := by
  unfold LogM.append
  rw [if_neg (by decide)]
  have h1 : (LogM.new LOG 100).parts.getLast? = none := rfl
  rw [h1]
  have h2 : (LogM.new LOG 100).fin = 0 := rfl
  simp only [h2]
  have h3 : DiskM.append (DiskM.new 1000) LOG0 (frameB [97]) = (aD (frameB [97]) 0 1, 0) := by
    unfold DiskM.append
    rw [dn0, step_plain rfl rfl, if_neg (by simp)]
    have h4 : fileAt (DiskM.new 1000).files LOG0 = none := rfl
    rw [h4]
    simp [Wal.frameB_length, DiskM.new, DiskM.tick, sumLen, aD, aF, wrap64]
  unfold LogM.lay
  rw [show (LogM.new LOG 100).name = LOG from rfl, file0, h3]
  simp [LogM.new, aG]
theorem al_file (b : List UInt8) (s : Nat) (k : Int) : fileAt (aD b s k).files LOG0 = some (aF b s) := rfl
theorem al_set (b : List UInt8) (s : Nat) (k : Int) (b' : List UInt8) (s' : Nat) : setFile (aD b s k).files (aF b' s') = [aF b' s'] := rfl
theorem tick_eq (b : List UInt8) (s : Nat) (k : Int) (h0 : 0 ≤ k) (h1 : k < 1000) : (aD b s k).tick = aD b s (k + 1) := by
  have : wrap64 (k + 1) = k + 1 := by unfold wrap64; omega
  unfold DiskM.tick aD
  simp only [this]
theorem al_sync (b : List UInt8) (l : List (List UInt8)) : LogM.sync (aD b 0 1) (aG l b.length true) = (aD b b.length 2, aG l b.length false, 0) := by
  have h : DiskM.sync (aD b 0 1) LOG0 = (aD b b.length 2, 0) := by
    unfold DiskM.sync
    rw [dn0, step_plain rfl rfl, if_neg (by simp), al_file]
    simp only [tick_eq b 0 1 (by decide) (by decide)]
    rfl
  unfold LogM.sync
  rw [show (aG l b.length true).parts.getLast? = some ⟨0, l.length, b.length⟩ from rfl]
  simp only
  rw [if_neg (by simp [aG]), show (aG l b.length true).name = LOG from rfl, file0, h]
  simp [aG]
theorem al_app2 : LogM.append (aD (frameB [97]) 13 2) (aG [[97]] 13 false) [98] = (aD (frameB [97] ++ frameB [98]) 13 3, aG [[97], [98]] 26 true, 0) := by
  unfold LogM.append
  rw [if_neg (by decide)]
  rw [show (aG [[97]] 13 false).parts.getLast? = some ⟨0, 1, 13⟩ from rfl]
  simp only
  rw [if_pos (by simp [aG])]
  have h3 : DiskM.append (aD (frameB [97]) 13 2) LOG0 (frameB [98]) = (aD (frameB [97] ++ frameB [98]) 13 3, 0) := by
    unfold DiskM.append
    rw [dn0, step_plain rfl rfl, if_neg (by simp), al_file]
    simp only [tick_eq _ 13 2 (by decide) (by decide)]
    rw [if_neg (by simp [aD, aF, sumLen, Wal.frameB_length])]
    rfl
  unfold LogM.lay
  rw [show (aG [[97]] 13 false).name = LOG from rfl]
  simp only [file0, h3]
  simp [aG]
theorem al_boot : (aD (frameB [97] ++ frameB [98]) 13 3).boot [] = aD (frameB [97]) 13 3 := by
  unfold DiskM.boot
  have hn : (aD (frameB [97] ++ frameB [98]) 13 3).names = [LOG0] := names_one (f := aF (frameB [97] ++ frameB [98]) 13) rfl
  rw [hn]
  have : bootTo [] [LOG0] (aD (frameB [97] ++ frameB [98]) 13 3).files [LOG0].length = [aF (frameB [97]) 13] := by
    show bootStep [] [LOG0] 0 (aD (frameB [97] ++ frameB [98]) 13 3).files = _
    unfold bootStep
    simp only [List.getElem?_cons_zero, al_file]
    have ht : (frameB [97] ++ frameB [98]).take 13 = frameB [97] := tke (by rw [Wal.frameB_length]; rfl)
    unfold bootFile
    simp [setFile, aD, aF, ht]
  rw [this]
  rfl
theorem al_open1 : openM (aD (frameB [97]) 13 3) LOG 100 = (aD (frameB [97]) 13 4, some (aG [[97]] 13 false), 0) := by
  unfold openM
  rw [nm0, if_neg (by simp), if_neg (by simp [aD]), names_one (f := aF (frameB [97]) 13) rfl]
  have hN : numbersB LOG [(aF (frameB [97]) 13).name] = [0] := by
    unfold numbersB
    have : numOf LOG (aF (frameB [97]) 13).name = some 0 := num0
    simp [this]
  rw [hN]
  have hR : DiskM.read (aD (frameB [97]) 13 3) LOG0 = (aD (frameB [97]) 13 4, frameB [97], 0) := by
    unfold DiskM.read
    rw [dn0, step_plain rfl rfl, if_neg (by simp), al_file]
    simp only [tick_eq _ 13 3 (by decide) (by decide)]
    rfl
  have hL : LogM.load (aD (frameB [97]) 13 3) { LogM.new LOG 100 with first := 0 } 0 true = (aD (frameB [97]) 13 4, aG [[97]] 13 false, 0) := by
    unfold LogM.load
    simp only [show (LogM.new LOG 100).name = LOG from rfl, file0, hR]
    rw [if_neg (by simp), if_neg (by simp [LogM.fin, LogM.new])]
    have hq : seqF ((frameB [97]).length + 1) (frameB [97]) = [([97], 13, 0)] := by
      have := seqF_frame [97] (by decide) (frameB [97]).length []
      rw [List.append_nil] at this
      rw [this, seqF_nil]
      rfl
    rw [hq]
    simp [scanS, Wal.frameB_length, LogM.new, aG]
  unfold openAll
  simp only [List.isEmpty_nil, if_true, hL, openAll]
  simp
theorem al_get : (aG [[97]] 13 false).get 0 = some [97] := by
  unfold LogM.get LogM.fin aG
  simp
theorem al_fin : (aG [[97]] 13 false).fin = 1 := rfl
theorem al_sum : crc [97] = 3904355907 := by decide
end Go.Proofs.YtnljhabpcoiihaaGreatDoor
set_option linter.all false
namespace Go.Proofs.YtnljhabpcoiihaaGreatDoor
open Go.RowKit

theorem Glob.mono {n m : Nat} {w : World} (h : Glob n w) (hm : n ≤ m) : Glob m w := fun W hW => h W fun k hk => hW k (by omega)
theorem nil_bs (w : World) : Bs 5 w (.slice none 0 0) [] := Bs.nil _ _
theorem own1 {w : World} {n : Nat} (x : UInt8) : Bs 5 (w.alloc (.cells #[.int .u8 (x.toNat : Int)] 5 (1, 2))) (.slice (some ⟨w.heap.size, 0, none⟩) 1 1) [x] :=
  ⟨_, 1, rfl, Nat.le_refl _, by simp [maxLen], .inr ⟨_, 0, _, _, rfl, heap_alloc_new w _, fun k hk => by
    have : k = 0 := by simpa using hk
    subst this; rfl⟩⟩

theorem open_some {n bd : Nat} {w : World} {D D' : DiskM} {G' : LogM} {name : List UInt8} {most : Int} (hnm : name.length ≤ 1048576) (hD : DiskR n w bd D) (hg : Glob n w) (hn : n ≤ w.heap.size) (h : openM D name most = (D', some G', 0)) :
    Calls Tryz.prog 44 #[.pointer (some ⟨bd, 0, none⟩), .string ⟨name.toArray⟩, .int .i64 most] w fun e w' =>
      ∃ bl, e = .returned (.tuple #[.pointer (some ⟨bl, 0, none⟩), .int .i64 0]) ∧ LogR n w' bl bd G' ∧ DiskR n w' bd D' ∧ Below n w w' := by
  refine (open_c n bd D name most hnm w hD hg hn).mono ?_
  rw [h]
  rintro e w' ⟨⟨bl, rfl, _, hL⟩, hD', hT⟩
  exact ⟨bl, rfl, hL, hD', hT.below hn⟩
theorem app_ok {n bl bd : Nat} {w : World} {D D' : DiskM} {G G' : LogM} {b : List UInt8} {v : Value} (hD : DiskR n w bd D) (hL : LogR n w bl bd G) (hg : Glob n w) (hn : n ≤ w.heap.size) (hb : Bn n w v b)
    (hfr : ∀ p ∈ G.parts, (0 ≤ p.frm ∧ p.frm ≤ 9223372036854775807) ∧ p.many ≤ 1099511627776 ∧ p.size ≤ 1099511627776) (hfew : G.recs.length ≤ 549755813888 ∧ G.parts.length ≤ 549755813888) (h : LogM.append D G b = (D', G', 0)) :
    Calls Tryz.prog 86 #[.pointer (some ⟨bl, 0, none⟩), v] w fun e w' => e = .returned (.int .i64 0) ∧ LogR n w' bl bd G' ∧ DiskR n w' bd D' ∧ Below n w w' := by
  refine (wapp_c n bl bd D G b v w hD hL hg hn hb hfr hfew).mono ?_
  rw [h]
  rintro e w' ⟨rfl, hD', hL', hT, _⟩
  exact ⟨rfl, hL', hD', hT.below hn⟩
theorem sync_ok {n bl bd : Nat} {w : World} {D D' : DiskM} {G G' : LogM} (hD : DiskR n w bd D) (hL : LogR n w bl bd G) (hg : Glob n w) (hn : n ≤ w.heap.size)
    (hfr : ∀ p ∈ G.parts, 0 ≤ p.frm ∧ p.frm ≤ 9223372036854775807) (h : LogM.sync D G = (D', G', 0)) :
    Calls Tryz.prog 87 #[.pointer (some ⟨bl, 0, none⟩)] w fun e w' => e = .returned (.int .i64 0) ∧ LogR n w' bl bd G' ∧ DiskR n w' bd D' ∧ Below n w w' := by
  refine (wsync_c n bl bd D G w hD hL hg hn hfr).mono ?_
  rw [h]
  rintro e w' ⟨rfl, hD', hL', hT⟩
  exact ⟨rfl, hL', hD', hT.below hn⟩
theorem parts_ok {l : List (List UInt8)} {m : Nat} {d : Bool} (h1 : l.length ≤ 1000) (h2 : m ≤ 1000) : (∀ p ∈ (aG l m d).parts, (0 ≤ p.frm ∧ p.frm ≤ 9223372036854775807) ∧ p.many ≤ 1099511627776 ∧ p.size ≤ 1099511627776) ∧ (aG l m d).recs.length ≤ 549755813888 ∧ (aG l m d).parts.length ≤ 549755813888 := by
  refine ⟨fun p hp => ?_, Nat.le_trans h1 (by decide), (by decide : 1 ≤ 549755813888)⟩
  have : p = ⟨0, l.length, m⟩ := by simpa [aG] using hp
  subst this
  exact ⟨(by decide : (0 : Int) ≤ 0 ∧ (0 : Int) ≤ 9223372036854775807), Nat.le_trans h1 (by decide), Nat.le_trans h2 (by decide)⟩

theorem conv1 (x : Value) (w : World) : (convert 29 29 (.slice (some ⟨w.heap.size, 0, none⟩) 1 1)).run Tryz.prog (w.alloc (.cells #[x] 5)) = .ok (.slice (some ⟨w.heap.size, 0, none⟩) 1 1) (w.alloc (.cells #[x] 5 (1, 2))) :=
  Lib.run_convert_bytes_const w 29 5 #[x] 1 1 Tryz.underlying29 (by kernel_rfl)

structure Al (n : Nat) (w : World) (bd : Nat) (D : DiskM) (wk : World) : Prop where
  below : Below n w wk
  size : n ≤ wk.heap.size
  glob : Glob n wk
  disk : DiskR n wk bd D
theorem Al.go {n bd : Nat} {w wk wj : World} {D D' : DiskM} (h : Al n w bd D wk) (hb : Below n wk wj) (hD : DiskR n wj bd D') : Al n w bd D' wj :=
  ⟨h.below.trans hb, Nat.le_trans h.size hb.size, h.glob.below hb, hD⟩
theorem Al.stay {n bd : Nat} {w wk wj : World} {D : DiskM} (h : Al n w bd D wk) (hb : Below wk.heap.size wk wj) : Al n w bd D wj := h.go (hb.mono h.size) (h.disk.below hb)

theorem bdrewQ (w : World) (k : Nat) : Below w.heap.size w (w.drewN k) := ⟨rfl, rfl, rfl, Nat.le_refl _, fun _ _ => rfl⟩
theorem BytesR.rd1 {n : Nat} {w : World} {A : Option Addr} {m c : Nat} {l : List UInt8} (h : BytesR n w (.slice A m c) l) : Rd n w A (bytesV l) := h.rd

end Go.Proofs.YtnljhabpcoiihaaGreatDoor
