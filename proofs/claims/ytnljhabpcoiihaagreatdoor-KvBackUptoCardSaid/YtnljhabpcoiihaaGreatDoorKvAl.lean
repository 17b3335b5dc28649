/- What the store's alive reckons, plain. The law's alive: a store. -/
import Derived.Test.YtnljhabpcoiihaaGreatDoorAlP
import Derived.Test.YtnljhabpcoiihaaGreatDoorKvO
import Derived.Test.YtnljhabpcoiihaaGreatDoorKvG
import Derived.Test.YtnljhabpcoiihaaGreatDoorBoot
set_option linter.all false
namespace Go.Proofs.YtnljhabpcoiihaaGreatDoor
open Go.RowKit
open Wal (frameB fourB numB nextB crc)

def DB : List UInt8 := [100, 98]
def DB0 : List UInt8 := [100, 98, 46, 48]
def RB : List UInt8 := [0, 0, 1, 97, 0, 0, 0, 2, 98, 99]
theorem db_file0 : Wal.fileB DB 0 = DB0 := by
  unfold Wal.fileB
  rw [if_neg (by decide)]
  show DB ++ [46] ++ Go.Lib.decDigits 0 = DB0
  rw [dig0]; rfl
theorem db_num0 : numOf DB DB0 = some 0 := by
  unfold numOf
  rw [if_pos (by decide), if_neg (by decide)]
  have : Go.Lib.atoiAll (DB0.drop (DB.length + 1)) = .ok 0 := by decide
  rw [this]
  simp only [db_file0, if_true]
theorem db_dn0 : dnameB DB0 = true := by decide
theorem db_nm0 : Wal.nameB DB = true := by decide
def kF (s : Nat) : FileM := ⟨DB0, frameB RB, s⟩
def kD (mp s : Nat) (k : Int) : DiskM := { room := 1000, files := [kF s], plan := [], steps := k, down := false, mp := mp, pm := none }
def kG (d : Bool) : LogM := { name := DB, most := 100, parts := [⟨0, 1, 22⟩], recs := [RB], first := 0, dirty := d }
theorem rb_len : (frameB RB).length = 22 := by rw [Wal.frameB_length]; rfl

theorem ka_open0 (mp : Nat) : openM (DiskM.new 1000 mp) DB 100 = (DiskM.new 1000 mp, some (LogM.new DB 100), 0) := by
  unfold openM
  rw [db_nm0, if_neg (by simp), if_neg (by simp [DiskM.new]), names_nil rfl]
  simp [numbersB, openAll]
theorem ka_app (mp : Nat) : LogM.append (DiskM.new 1000 mp) (LogM.new DB 100) RB = (kD mp 0 1, kG true, 0) := by
  unfold LogM.append
  rw [if_neg (by decide)]
  have h1 : (LogM.new DB 100).parts.getLast? = none := rfl
  rw [h1]
  have h2 : (LogM.new DB 100).fin = 0 := rfl
  simp only [h2]
  have h3 : DiskM.append (DiskM.new 1000 mp) DB0 (frameB RB) = (kD mp 0 1, 0) := by
    unfold DiskM.append
    rw [db_dn0, step_plain rfl rfl, if_neg (by simp)]
    have h4 : fileAt (DiskM.new 1000 mp).files DB0 = none := rfl
    rw [h4]
    simp [rb_len, DiskM.new, DiskM.tick, sumLen, kD, kF, wrap64]
  unfold LogM.lay
  rw [show (LogM.new DB 100).name = DB from rfl, db_file0, h3]
  simp [LogM.new, kG, RB]
theorem ka_file (mp s : Nat) (k : Int) : fileAt (kD mp s k).files DB0 = some (kF s) := rfl
theorem ka_tick (mp s : Nat) (k : Int) (h0 : 0 ≤ k) (h1 : k < 1000) : (kD mp s k).tick = kD mp s (k + 1) := by
  have : wrap64 (k + 1) = k + 1 := by unfold wrap64; omega
  unfold DiskM.tick kD
  simp only [this]
theorem ka_sync (mp : Nat) : LogM.sync (kD mp 0 1) (kG true) = (kD mp 22 2, kG false, 0) := by
  have h : DiskM.sync (kD mp 0 1) DB0 = (kD mp 22 2, 0) := by
    unfold DiskM.sync
    rw [db_dn0, step_plain rfl rfl, if_neg (by simp), ka_file]
    simp only [ka_tick mp 0 1 (by decide) (by decide)]
    rw [show (kF 0).b.length = 22 from rb_len]
    rfl
  unfold LogM.sync
  rw [show (kG true).parts.getLast? = some ⟨0, 1, 22⟩ from rfl]
  simp only
  rw [if_neg (by simp [kG]), show (kG true).name = DB from rfl, db_file0, h]
  simp [kG]
theorem ka_write (mp : Nat) : LogM.write (DiskM.new 1000 mp) (LogM.new DB 100) RB = (kD mp 22 2, kG false, 0) := by
  unfold LogM.write
  rw [ka_app, if_pos rfl]
  exact ka_sync mp
theorem ka_boot (mp : Nat) : (kD mp 22 2).boot [] = kD mp 22 2 := by
  unfold DiskM.boot
  have hn : (kD mp 22 2).names = [DB0] := names_one (f := kF 22) rfl
  rw [hn]
  have : bootTo [] [DB0] (kD mp 22 2).files [DB0].length = [kF 22] := by
    show bootStep [] [DB0] 0 (kD mp 22 2).files = _
    unfold bootStep
    simp only [List.getElem?_cons_zero, ka_file]
    have ht : (frameB RB).take 22 = frameB RB := List.take_of_length_le (by rw [rb_len]; exact Nat.le_refl _)
    unfold bootFile
    simp [setFile, kD, kF, ht]
  rw [this]
  rfl
theorem ka_open1 (mp : Nat) : openM (kD mp 22 2) DB 100 = (kD mp 22 3, some (kG false), 0) := by
  unfold openM
  rw [db_nm0, if_neg (by simp), if_neg (by simp [kD]), names_one (f := kF 22) rfl]
  have hN : numbersB DB [(kF 22).name] = [0] := by
    unfold numbersB
    have : numOf DB (kF 22).name = some 0 := db_num0
    simp [this]
  rw [hN]
  have hR : DiskM.read (kD mp 22 2) DB0 = (kD mp 22 3, frameB RB, 0) := by
    unfold DiskM.read
    rw [db_dn0, step_plain rfl rfl, if_neg (by simp), ka_file]
    simp only [ka_tick mp 22 2 (by decide) (by decide)]
    rfl
  have hL : LogM.load (kD mp 22 2) { LogM.new DB 100 with first := 0 } 0 true = (kD mp 22 3, kG false, 0) := by
    unfold LogM.load
    simp only [show (LogM.new DB 100).name = DB from rfl, db_file0, hR]
    rw [if_neg (by simp), if_neg (by simp [LogM.fin, LogM.new])]
    have hq : seqF ((frameB RB).length + 1) (frameB RB) = [(RB, 22, 0)] := by
      have := seqF_frame RB (by decide) (frameB RB).length []
      rw [List.append_nil] at this
      rw [this, seqF_nil]
      rfl
    rw [hq]
    have hl : (frameB [0, 0, 1, 97, 0, 0, 0, 2, 98, 99]).length = 22 := rb_len
    simp [scanS, hl, LogM.new, kG, RB]
  unfold openAll
  simp only [List.isEmpty_nil, if_true, hL, openAll]
  simp
theorem ka_batch : batchM [(⟨[97], [98, 99], false⟩ : ChM)] = ([0, 1, 97, 0, 0, 0, 2, 98, 99], 0) := by decide
theorem ka_loadK : loadK [] RB = some [([97], [98, 99])] := by decide
theorem ka_get : getK [([97], [98, 99])] [97] = some [98, 99] := by decide
theorem ka_do (m : KvM) (h : m = []) : doM m [(⟨[97], [98, 99], false⟩ : ChM)] = [([97], [98, 99])] := by subst h; decide
end Go.Proofs.YtnljhabpcoiihaaGreatDoor
set_option linter.all false
namespace Go.Proofs.YtnljhabpcoiihaaGreatDoor
open Go.RowKit

theorem conv2 (x y : Value) (w : World) : (convert 29 29 (.slice (some ⟨w.heap.size, 0, none⟩) 2 2)).run Tryz.prog (w.alloc (.cells #[x, y] 5)) = .ok (.slice (some ⟨w.heap.size, 0, none⟩) 2 2) (w.alloc (.cells #[x, y] 5 (2, 3))) :=
  Lib.run_convert_bytes_const w 29 5 #[x, y] 2 2 Tryz.underlying29 (by kernel_rfl)
/-- the literal of one change -/
structure Lit (w : World) (a b c : Nat) : Prop where
  ha : w.heap[a]? = some (.cells #[.int .u8 97] 5 (1, 2))
  hb : w.heap[b]? = some (.cells #[.int .u8 98, .int .u8 99] 5 (2, 3))
  hc : w.heap[c]? = some (.cells #[.slice (some ⟨a, 0, none⟩) 1 1, .slice (some ⟨b, 0, none⟩) 2 2, .bool false] 87 (0, 0))
def litL (a b : Nat) : List ChE := [((⟨[97], [98, 99], false⟩ : ChM), .slice (some ⟨a, 0, none⟩) 1 1, .slice (some ⟨b, 0, none⟩) 2 2)]
theorem Lit.keep {w w' : World} {a b c : Nat} (h : Lit w a b c) (hk : ∀ (x : Nat) (o : Obj), w.heap[x]? = some o → (tagOf o = some 5 ∨ tagOf o = some 87) → w'.heap[x]? = some o) : Lit w' a b c :=
  ⟨hk _ _ h.ha (.inl rfl), hk _ _ h.hb (.inl rfl), hk _ _ h.hc (.inr rfl)⟩
theorem Lit.row {w : World} {a b c : Nat} (h : Lit w a b c) : Rd 0 w (some ⟨c, 0, none⟩) (chCells (litL a b)) :=
  Or.inr ⟨c, 0, Nat.zero_le _, rfl, fun k hk => by
    rw [Joins.cell_of_block h.hc]
    have h3 : k < 3 := by simpa [chCells, litL, chV] using hk
    match k, h3 with
    | 0, _ => rfl
    | 1, _ => rfl
    | 2, _ => rfl⟩
theorem Lit.each {w : World} {a b c : Nat} (h : Lit w a b c) : ChEach w (litL a b) := by
  intro x hx
  cases List.mem_singleton.1 hx
  refine ⟨⟨_, 1, rfl, Nat.le_refl _, Or.inr ⟨a, 0, Nat.zero_le _, rfl, fun k hk => ?_⟩⟩, ⟨_, 2, rfl, Nat.le_refl _, Or.inr ⟨b, 0, Nat.zero_le _, rfl, fun k hk => ?_⟩⟩⟩
  · rw [Joins.cell_of_block h.ha]
    have h3 : k < 1 := by simpa [bytesV] using hk
    match k, h3 with
    | 0, _ => rfl
  · rw [Joins.cell_of_block h.hb]
    have h3 : k < 2 := by simpa [bytesV] using hk
    match k, h3 with
    | 0, _ => rfl
    | 1, _ => rfl
theorem litL_len (a b : Nat) : ∀ x ∈ litL a b, x.1.key.length ≤ 1099511627776 ∧ x.1.val.length ≤ 1099511627776 := by
  intro x hx
  cases List.mem_singleton.1 hx
  exact ⟨(by decide : 1 ≤ 1099511627776), (by decide : 2 ≤ 1099511627776)⟩
/-- the three blocks of the literal -/
theorem lit_new (w : World) : Lit (((w.alloc (.cells #[.int .u8 97] 5 (1, 2))).alloc (.cells #[.int .u8 98, .int .u8 99] 5 (2, 3))).alloc (.cells #[.slice (some ⟨w.heap.size, 0, none⟩) 1 1, .slice (some ⟨w.heap.size + 1, 0, none⟩) 2 2, .bool false] 87)) w.heap.size (w.heap.size + 1) (w.heap.size + 1 + 1) := by
  refine ⟨?_, ?_, ?_⟩
  · exact (Below.heap_alloc _ _ _ (by simp; omega)).trans ((Below.heap_alloc _ _ _ (by simp)).trans (heap_alloc_new w _))
  · refine (Below.heap_alloc _ _ _ (by simp)).trans ?_
    have := heap_alloc_new (w.alloc (.cells #[.int .u8 97] 5 (1, 2))) (.cells #[.int .u8 98, .int .u8 99] 5 (2, 3))
    rwa [World.size_alloc] at this
  · have := heap_alloc_new ((w.alloc (.cells #[.int .u8 97] 5 (1, 2))).alloc (.cells #[.int .u8 98, .int .u8 99] 5 (2, 3))) (.cells #[.slice (some ⟨w.heap.size, 0, none⟩) 1 1, .slice (some ⟨w.heap.size + 1, 0, none⟩) 2 2, .bool false] 87)
    simpa using this
theorem bnew3 (w : World) (o o' o'' : Obj) : Below w.heap.size w (((w.alloc o).alloc o').alloc o'') := (bnew2 w o o').alloc (by simp; omega) _

theorem ka_openK0 (mp : Nat) : openK (DiskM.new 1000 mp) DB 100 = (DiskM.new 1000 mp, some (LogM.new DB 100, []), 0) := by
  unfold openK; rw [ka_open0]; rfl
theorem ka_openK1 (mp : Nat) : openK (kD mp 22 2) DB 100 = (kD mp 22 3, some (kG false, [([97], [98, 99])]), 0) := by
  unfold openK; rw [ka_open1]
  simp only [show (kG false).recs = [RB] from rfl, loadAll, ka_loadK]
theorem ka_put (mp : Nat) : StM.put ⟨DiskM.new 1000 mp, LogM.new DB 100, [], false⟩ [(⟨[97], [98, 99], false⟩ : ChM)] = (⟨kD mp 22 2, kG false, [([97], [98, 99])], false⟩, 0) := by
  unfold StM.put
  rw [ka_batch]
  simp only [Bool.false_eq_true, if_false]
  have h := ka_write mp
  rw [show (0 :: [0, 1, 97, 0, 0, 0, 2, 98, 99] : List UInt8) = RB from rfl, h]
  rw [ka_do [] rfl]
  rfl

set_option maxRecDepth 100000 in
set_option maxHeartbeats 2000000 in
theorem kalive_c (w : World) (hg : Glob w.heap.size w) :
    Calls Tryz.prog 9 #[] w fun e w' => e = .returned (.bool true) ∧ Below w.heap.size w w' := by
  obtain ⟨n, hn⟩ : ∃ n, w.heap.size = n := ⟨_, rfl⟩
  rw [hn] at hg ⊢
  have HG := Lib.hid (And.intro hg hn); clear hg hn
  go_enter Tryz.func9, Tryz.ntmps9
  have hcs := conv1
  go_wp2_with fail
  refine (new_c 1000 (by decide) (by decide) w).mono ?_
  rintro e w1 ⟨bd, rfl, hbd, hD1, hb1⟩
  rw [HG.out.2] at hD1 hb1
  have H1 := Lib.hid (show Al n w bd (DiskM.new 1000 n) w1 from ⟨hb1, Nat.le_trans (Nat.le_of_eq HG.out.2.symm) hb1.size, HG.out.1.below hb1, hD1⟩)
  clear hbd hD1 hb1
  go_wp2_with fail
  refine (kopen_c n bd (DiskM.new 1000 n) DB 100 (by decide) w1 H1.out.disk H1.out.glob H1.out.size (fun G hG b hb => by rw [ka_open0] at hG; cases hG; simp [LogM.new] at hb)).mono ?_
  rw [ka_openK0]
  rintro e w2 ⟨⟨bs, bl, bm, rfl, hS2⟩, hD2, hT2⟩
  have H2 := Lib.hid (And.intro (H1.out.go (hT2.below H1.out.size) hD2) hS2)
  clear hS2 hD2 hT2
  have hcs2 := conv2 (.int .u8 98) (.int .u8 99) (w2.alloc (.cells #[.int .u8 97] 5 (1, 2)))
  simp only [World.size_alloc] at hcs2
  go_wp2_with fail
  have hlit := lit_new w2
  have hbl := bnew3 w2 (.cells #[.int .u8 97] 5 (1, 2)) (.cells #[.int .u8 98, .int .u8 99] 5 (2, 3)) (.cells #[.slice (some ⟨w2.heap.size, 0, none⟩) 1 1, .slice (some ⟨w2.heap.size + 1, 0, none⟩) 2 2, .bool false] 87)
  generalize (((w2.alloc (.cells #[.int .u8 97] 5 (1, 2))).alloc (.cells #[.int .u8 98, .int .u8 99] 5 (2, 3))).alloc (.cells #[.slice (some ⟨w2.heap.size, 0, none⟩) 1 1, .slice (some ⟨w2.heap.size + 1, 0, none⟩) 2 2, .bool false] 87)) = W2 at hlit hbl ⊢
  have hA2 := H2.out.1.stay hbl
  have hput := put_c n bs bl bd bm ⟨DiskM.new 1000 n, LogM.new DB 100, [], false⟩ (some ⟨w2.heap.size + 1 + 1, 0, none⟩) 1 1 (litL w2.heap.size (w2.heap.size + 1)) rfl (by decide) (litL_len _ _) W2 (H2.out.2.below hbl) hA2.glob hA2.size
    (fun W hT => ⟨(hlit.keep fun x o hx ht => hT.block x o hx (.inr (by rcases ht with ht | ht <;> rw [ht] <;> simp [TSt]))).row, (hlit.keep fun x o hx ht => hT.block x o hx (.inr (by rcases ht with ht | ht <;> rw [ht] <;> simp [TSt]))).each⟩)
    (fun p hp => by simp [LogM.new] at hp) (by simp [LogM.new]) (fun p hp => by
      rw [show (litL w2.heap.size (w2.heap.size + 1)).map (·.1) = [(⟨[97], [98, 99], false⟩ : ChM)] from rfl, ka_batch] at hp
      have h := ka_app n
      rw [show (0 :: ([0, 1, 97, 0, 0, 0, 2, 98, 99], (0 : Int)).1 : List UInt8) = RB from rfl, h] at hp
      have : p = ⟨0, 1, 22⟩ := by simpa [kG] using hp
      subst this
      exact (by decide : (0 : Int) ≤ 0 ∧ (0 : Int) ≤ 9223372036854775807))
  rw [show (litL w2.heap.size (w2.heap.size + 1)).map (·.1) = [(⟨[97], [98, 99], false⟩ : ChM)] from rfl, ka_put] at hput
  refine hput.mono ?_
  rintro e w3 ⟨rfl, hS3, hT3⟩
  have H3 := Lib.hid (hA2.go (hT3.below hA2.size) hS3.disk)
  clear hput hS3 hT3 hA2 hlit hbl hcs2
  go_wp2_with fail
  refine (boot_c n bd _ [] none 0 0 rfl (by decide) w3 H3.out.disk (fun W _ => Rd.nil _ _ _)).mono ?_
  rintro e w4 ⟨rfl, hD4, hT4⟩
  rw [show DiskM.boot _ [] = kD n 22 2 from ka_boot n] at hD4
  have H4 := Lib.hid (H3.out.go (hT4.below H3.out.size) hD4)
  clear hD4 hT4
  go_wp2_with fail
  refine (kopen_c n bd (kD n 22 2) DB 100 (by decide) w4 H4.out.disk H4.out.glob H4.out.size (fun G hG b hb => by
    rw [ka_open1] at hG; cases hG
    have : b = RB := by simpa [kG] using hb
    subst this
    exact ⟨by decide, fun bs bm m lp br v W h1 h2 h3 => load0_c bs bm m lp br [0, 1, 97, 0, 0, 0, 2, 98, 99] (by decide) v W h1 h2 h3⟩)).mono ?_
  rw [ka_openK1]
  rintro e w5 ⟨⟨bs', bl', bm', rfl, hS5⟩, hD5, hT5⟩
  have H5 := Lib.hid (And.intro (H4.out.go (hT5.below H4.out.size) hD5) hS5)
  clear hS5 hD5 hT5
  go_wp2_with fail
  have hb5 := bnew w5 (.cells #[.int .u8 97] 5 (1, 2))
  have hk5 : Rd 0 (w5.alloc (.cells #[.int .u8 97] 5 (1, 2))) (some ⟨w5.heap.size, 0, none⟩) (bytesV [97]) := (own1 (w := w5) (n := 0) 97).toR.rd1
  generalize w5.alloc (.cells #[.int .u8 97] 5 (1, 2)) = W5 at hb5 hk5 ⊢
  have hget := kget_c bs' bm' [([97], [98, 99])] _ _ (some ⟨w5.heap.size, 0, none⟩) 1 1 [97] rfl W5 (H5.out.2.below hb5).at_ (H5.out.2.below hb5).map hk5 (fun v hv => by rw [ka_get] at hv; cases hv; decide)
  rw [ka_get] at hget
  refine hget.mono ?_
  rintro e w6 ⟨v6, rfl, hbs6, hb6⟩
  obtain ⟨A6, c6, rfl, -⟩ := id hbs6
  have H6 := Lib.hid (And.intro ((H5.out.1.stay hb5).stay hb6) (And.intro ((H5.out.2.below hb5).below hb6) hbs6))
  clear hget hbs6 hb6 hk5 hb5
  have hcs2 := conv2 (.int .u8 98) (.int .u8 99) (w6.alloc (.cells #[.int .u8 97] 5 (1, 2)))
  simp only [World.size_alloc] at hcs2
  go_wp2_with fail
  have hlit := lit_new w6
  have hbl := bnew3 w6 (.cells #[.int .u8 97] 5 (1, 2)) (.cells #[.int .u8 98, .int .u8 99] 5 (2, 3)) (.cells #[.slice (some ⟨w6.heap.size, 0, none⟩) 1 1, .slice (some ⟨w6.heap.size + 1, 0, none⟩) 2 2, .bool false] 87)
  generalize (((w6.alloc (.cells #[.int .u8 97] 5 (1, 2))).alloc (.cells #[.int .u8 98, .int .u8 99] 5 (2, 3))).alloc (.cells #[.slice (some ⟨w6.heap.size, 0, none⟩) 1 1, .slice (some ⟨w6.heap.size + 1, 0, none⟩) 2 2, .bool false] 87)) = W6 at hlit hbl ⊢
  have hbat := batch_c (some ⟨w6.heap.size + 1 + 1, 0, none⟩) 1 1 (litL w6.heap.size (w6.heap.size + 1)) rfl (by decide) (litL_len _ _) W6 hlit.row hlit.each
  rw [show (litL w6.heap.size (w6.heap.size + 1)).map (·.1) = [(⟨[97], [98, 99], false⟩ : ChM)] from rfl, ka_batch] at hbat
  refine hbat.mono ?_
  rintro e w7 ⟨v7, rfl, hbs7, hb7⟩
  obtain ⟨A7, c7, rfl, -⟩ := id hbs7
  have hS7 := (H6.out.2.1.below hbl).below hb7
  have hr6 := ((H6.out.2.2.below hbl).below hb7).toR.rd
  have hs7 := run_convert_rd 0 w7 A6 2 c6 [98, 99] rfl hr6
  have H7 := Lib.hid (And.intro ((H6.out.1.stay hbl).stay hb7) (And.intro hS7 (And.intro hbs7 (klen_c bs' bm' [([97], [98, 99])] _ _ w7 hS7.at_ hS7.map))))
  clear hbat hbs7 hb7 hS7 hr6 hlit hbl hcs2
  go_wp2_with (first
    | (go_at_call 20; (refine H7.out.2.2.2.mono ?_); rintro e w8 ⟨rfl, hw8⟩; have hw9 := hw8.symm; subst hw9)
    | fail)
  have hown9 := own_new w7 5 #[.int .u8 0, .int .u8 1, .int .u8 97, .int .u8 0, .int .u8 0, .int .u8 0, .int .u8 2, .int .u8 98, .int .u8 99] 9 rfl (by simp [maxLen])
  have hb9 := bnew w7 (.cells #[.int .u8 0, .int .u8 1, .int .u8 97, .int .u8 0, .int .u8 0, .int .u8 0, .int .u8 2, .int .u8 98, .int .u8 99] 5)
  have hr9 := ((Rd.of_own hown9).mono (Nat.zero_le _))
  refine (same_c A7 (some ⟨w7.heap.size, 0, none⟩) 9 9 c7 9 [0, 1, 97, 0, 0, 0, 2, 98, 99] [0, 1, 97, 0, 0, 0, 2, 98, 99] rfl rfl _ ((H7.out.2.2.1.below hb9).toR.rd) hr9).mono ?_
  rintro e w10 ⟨rfl, hw10⟩
  have hw11 := hw10.symm
  subst hw11
  rw [show (([0, 1, 97, 0, 0, 0, 2, 98, 99] : List UInt8) == [0, 1, 97, 0, 0, 0, 2, 98, 99]) = true from by decide]
  have H9 := Lib.hid (H7.out.1.stay hb9)
  clear hown9 hb9 hr9
  go_wp2_with fail
  go_ret
  exact ⟨rfl, H9.out.below⟩
end Go.Proofs.YtnljhabpcoiihaaGreatDoor
