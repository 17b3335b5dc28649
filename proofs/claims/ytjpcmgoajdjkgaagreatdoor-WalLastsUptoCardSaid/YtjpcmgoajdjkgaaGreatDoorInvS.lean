/- A spoilt byte: what Spoil does, and that Open tells it (plain). -/
import Derived.Test.YtjpcmgoajdjkgaaGreatDoorInvR
set_option linter.all false
namespace Go.Proofs.YtjpcmgoajdjkgaaGreatDoor
open Go.RowKit
open Wal (frameB fourB numB nextB crc fileB)

def DiskM.spoil (D : DiskM) (s : List UInt8) (i : Int) (x : UInt8) : DiskM × Int :=
  match fileAt D.files s with
  | none => (D, 33)
  | some f => if i < 0 ∨ (f.b.length : Int) ≤ i then (D, 1)
    else ({ D with files := setFile D.files { f with b := f.b.set i.toNat (f.b.getD i.toNat 0 ^^^ x) } }, 0)

theorem frs_at : ∀ (rs : List (List UInt8)) (i : Nat), i < (frs rs).length → ∃ a b c i', rs = a ++ b :: c ∧ i = (frs a).length + i' ∧ i' < 12 + b.length
  | [], i, h => by simp [frs] at h
  | b :: r, i, h => by
    by_cases hi : i < 12 + b.length
    · exact ⟨[], b, r, i, rfl, by simp [frs], hi⟩
    · rw [frs_cons, List.length_append, Wal.frameB_length] at h
      obtain ⟨a, x, c, i', h1, h2, h3⟩ := frs_at r (i - (12 + b.length)) (by omega)
      refine ⟨b :: a, x, c, i', by rw [h1]; rfl, ?_, h3⟩
      rw [frs_cons, List.length_append, Wal.frameB_length]
      omega
theorem scan_rot (rs : List (List UInt8)) (h : ∀ b ∈ rs, b.length ≤ 65536) (i : Nat) (hi : i < (frs rs).length) (y : UInt8) (hy : y ≠ (frs rs)[i]) (last : Bool) :
    scanS last (seqF (((frs rs).set i y).length + 1) ((frs rs).set i y)) = none := by
  obtain ⟨a, b, c, i', h1, h2, h3⟩ := frs_at rs i hi
  have hb : b.length ≤ 65536 := h b (by rw [h1]; simp)
  have ha : ∀ x ∈ a, x.length ≤ 65536 := fun x hx => h x (by rw [h1]; simp [hx])
  have hfr : frs rs = frs a ++ (frameB b ++ frs c) := by rw [h1, frs_append, frs_cons]
  have hset : (frs rs).set i y = frs a ++ ((frameB b).set i' y ++ frs c) := by
    rw [hfr, List.set_append_right _ _ (by omega), h2, Nat.add_sub_cancel_left, List.set_append_left _ _ (by rw [Wal.frameB_length]; exact h3)]
  have hyb : ∀ hl : i' < (frameB b).length, y ≠ (frameB b)[i'] := fun hl e => by
    refine hy (e.trans ?_)
    simp only [hfr]
    rw [List.getElem_append_right (by omega), List.getElem_append_left (by omega)]
    congr 1
    omega
  have hge := frs_length_ge a
  have hlen : ((frs rs).set i y).length = (frs a).length + (12 + b.length + (frs c).length) := by
    rw [hset]; simp [Wal.frameB_length]
  rw [hlen, hset]
  have := seqF_frs ((frameB b).set i' y ++ frs c) a ha ((frs a).length + (12 + b.length + (frs c).length) + 1 - a.length)
  rw [show a.length + ((frs a).length + (12 + b.length + (frs c).length) + 1 - a.length) = (frs a).length + (12 + b.length + (frs c).length) + 1 by omega] at this
  rw [this, scan_ok]
  obtain ⟨f, hf⟩ : ∃ f, (frs a).length + (12 + b.length + (frs c).length) + 1 - a.length = f + 1 := ⟨(frs a).length + (12 + b.length + (frs c).length) - a.length, by omega⟩
  have hne : (frameB b).set i' y ++ frs c ≠ [] := by
    intro e
    have := congrArg List.length e
    rw [List.length_append, List.length_set, Wal.frameB_length] at this
    simp at this
  rw [hf, seqF, if_neg hne, nextB_rot b (frs c) hb i' h3 y hyb]
  simp [scanS]

theorem load_rot {D : DiskM} (h : Runs D) {G : LogM} {k : Nat} (hk : k < 1000000000) (hn : G.name = LOG) (hfin : G.fin = (k : Nat)) {f : FileM} (hf : fileAt D.files (fileB LOG (k : Int)) = some f) {rs : List (List UInt8)} (hs : ∀ b ∈ rs, b.length ≤ 65536)
    {i : Nat} (hi : i < (frs rs).length) {y : UInt8} (hy : y ≠ (frs rs)[i]) (hb : f.b = (frs rs).set i y) (last : Bool) :
    LogM.load D G (k : Int) last = (D.tick, G, 34) := by
  unfold LogM.load
  rw [hn, h.read (dn_file k hk) hf, if_neg (by simp), if_neg (by simp [hfin])]
  simp only
  rw [hb, scan_rot rs hs i hi y hy last]

theorem mkFiles_split : ∀ (k : Nat) (gs : List Grp) (f : FileM), f ∈ mkFiles k gs → ∃ pre g post, gs = pre ++ g :: post ∧ f = mkFile (k + (flat pre).length) g
  | _, [], f, h => by simp [mkFiles] at h
  | k, g :: r, f, h => by
    rw [mkFiles, List.mem_cons] at h
    rcases h with rfl | h
    · exact ⟨[], g, r, rfl, by simp [flat]⟩
    · obtain ⟨pre, x, post, h1, h2⟩ := mkFiles_split (k + g.1.length) r f h
      refine ⟨g :: pre, x, post, by rw [h1]; rfl, ?_⟩
      rw [h2]
      congr 1
      simp [flat]; omega

theorem xor_ne {a x : UInt8} (h : x ≠ 0) : a ^^^ x ≠ a := by
  intro e
  apply h
  have := congrArg (fun z => a ^^^ z) e
  simpa [← UInt8.xor_assoc] using this

theorem open_rot {most : Int} {D : DiskM} {G : LogM} {gs : List Grp} (h : LInv most D G gs) (hmost : 1 ≤ most) (hR : Runs D) (s : List UInt8) (i : Int) (x : UInt8) (hx : x ≠ 0) (he : (D.spoil s i x).2 = 0) :
    (openM (D.spoil s i x).1 LOG most).2 = (none, 34) := by
  have hlt : (flat gs).length < 1000000000 := by have := h.few; omega
  have hnd : (D.files.map (·.name)).Nodup := by rw [h.files]; exact names_nodup h.ne hlt
  have hsm := small_of h
  unfold DiskM.spoil at he ⊢
  cases hf : fileAt D.files s with
  | none => rw [hf] at he; simp at he
  | some f =>
    rw [hf] at he
    simp only at he ⊢
    by_cases hi : i < 0 ∨ (f.b.length : Int) ≤ i
    · rw [if_pos hi] at he; simp at he
    · rw [if_neg hi]
      simp only
      obtain ⟨hfm, hfn⟩ := fileAt_mem hf
      obtain ⟨pre, g, post, hgs, hfe⟩ := mkFiles_split 0 gs f (by rw [← h.files]; exact hfm)
      rw [Nat.zero_add] at hfe
      generalize hf' : ({ f with b := f.b.set i.toNat (f.b.getD i.toNat 0 ^^^ x) } : FileM) = f'
      have hn' : f'.name = f.name := by rw [← hf']
      generalize hD' : ({ D with files := setFile D.files f' } : DiskM) = D'
      have hR' : Runs D' := by rw [← hD']; exact ⟨hR.plan, hR.up⟩
      have hfl : D'.files = setFile D.files f' := by rw [← hD']
      have hnames : D'.files.map (·.name) = (ks 0 gs).map fun (j : Nat) => fileB LOG (j : Int) := by
        rw [hfl, set_names, h.files, mkFiles_names]
      have hnd2 : (D'.files.map (·.name)).Nodup := by rw [hfl, set_names]; exact hnd
      have hnum : numbersB LOG D'.names = (ks 0 gs).map fun (j : Nat) => (j : Int) := by
        refine numbers_ks h.ne hlt ?_
        rw [← hnames]
        exact List.mergeSort_perm _ _
      unfold openM
      rw [nm0, if_neg (by simp; omega), if_neg (by rw [hR'.up]; simp), hnum]
      have hpl : (flat gs).length = (flat pre).length + (g.1.length + (flat post).length) := by rw [hgs]; simp [flat]
      have hgn : 1 ≤ g.1.length := List.length_pos_iff.2 (h.ne g (by rw [hgs]; simp))
      have hKn : f.name = fileB LOG (((flat pre).length : Nat) : Int) := by rw [hfe]; rfl
      have hks : ks 0 gs = ks 0 pre ++ (flat pre).length :: ks ((flat pre).length + g.1.length) post := by rw [hgs, ks_append]; simp [ks]
      rw [hks, List.map_append]
      obtain ⟨D2, P', i', k1, k2, k3, k4⟩ := openAll_full (((flat pre).length :: ks ((flat pre).length + g.1.length) post).map fun (j : Nat) => (j : Int)) (by simp) pre 0 0 D' (LogM.new LOG most) hR' rfl rfl rfl (fun _ => rfl) (fun y hy => h.ne y (by rw [hgs]; simp [hy]))
        (fun y hy => hsm y (by rw [hgs]; simp [hy])) (by omega) (fun p y q e => by
          refine ⟨mkFile (flat p).length y, ?_, rfl⟩
          rw [Nat.zero_add]
          have hm : mkFile (flat p).length y ∈ D.files := by rw [h.files, hgs, e, List.append_assoc]; exact file_in p y _
          have hyn : 1 ≤ y.1.length := List.length_pos_iff.2 (h.ne y (by rw [hgs, e]; simp))
          have hpp : (flat pre).length = (flat p).length + (y.1.length + (flat q).length) := by rw [e]; simp [flat]
          refine fileAt_of hnd2 (f := mkFile (flat p).length y) ?_
          rw [hfl]
          refine List.mem_map.2 ⟨_, hm, if_neg ?_⟩
          rw [hn', hKn]
          intro e2
          have := file_inj (i := (flat p).length) (j := (flat pre).length) (by omega) (by omega) e2
          omega)
      rw [k4]
      have hat : fileAt D2.files (fileB LOG (((flat pre).length : Nat) : Int)) = some f' := by
        rw [k2, ← hKn, ← hn']
        refine fileAt_of hnd2 (f := f') ?_
        rw [hfl]
        exact List.mem_map.2 ⟨f, hfm, if_pos hn'.symm⟩
      have hbl : f.b = frs g.1 := by rw [hfe]; rfl
      have hil : i.toNat < (frs g.1).length := by rw [← hbl]; omega
      have hb' : f'.b = (frs g.1).set i.toNat ((frs g.1).getD i.toNat 0 ^^^ x) := by rw [← hf', ← hbl]
      rw [List.map_cons, openAll]
      have hg0 : (if i' = 0 then ({ LogM.new LOG most with recs := (LogM.new LOG most).recs ++ flat pre, parts := P', first := (((flat pre).length : Nat) : Int) } : LogM) else { LogM.new LOG most with recs := (LogM.new LOG most).recs ++ flat pre, parts := P' }) = { LogM.new LOG most with recs := [] ++ flat pre, parts := P' } := by
        split
        · rename_i hi
          obtain ⟨e, _⟩ := k3 hi
          rw [e]
          rfl
        · rfl
      rw [hg0, load_rot k1 (G := { LogM.new LOG most with recs := [] ++ flat pre, parts := P' }) (k := (flat pre).length) (by omega) rfl (by simp [LogM.fin, LogM.new]) hat (hsm g (by rw [hgs]; simp)) hil (y := (frs g.1).getD i.toNat 0 ^^^ x) (by
        have e : (frs g.1).getD i.toNat 0 = (frs g.1)[i.toNat] := by simp [List.getD, hil]
        rw [e]
        exact xor_ne hx) hb']
      rw [if_pos (by simp)]

theorem Runs.app {D : DiskM} (h : Runs D) (s b : List UInt8) : Runs (D.append s b).1 := by
  have hk := step_keeps D (dnameB s)
  have hs : (D.step (dnameB s)).1.down = false := by
    cases dnameB s with
    | true => rw [h.step]; exact h.up
    | false => unfold DiskM.step; rw [h.up]; simp [h.up]
  have hR : Runs (D.step (dnameB s)).1 := ⟨by rw [hk.2.2]; exact h.plan, hs⟩
  unfold DiskM.append
  split
  · exact hR
  · split
    · split
      · exact hR
      split
      · exact hR
      · exact ⟨hR.plan, hR.up⟩
    · split
      · exact hR
      · exact ⟨hR.plan, hR.up⟩
theorem Runs.syn {D : DiskM} (h : Runs D) (s : List UInt8) : Runs (D.sync s).1 := by
  have hk := step_keeps D (dnameB s)
  have hs : (D.step (dnameB s)).1.down = false := by
    cases dnameB s with
    | true => rw [h.step]; exact h.up
    | false => unfold DiskM.step; rw [h.up]; simp [h.up]
  have hR : Runs (D.step (dnameB s)).1 := ⟨by rw [hk.2.2]; exact h.plan, hs⟩
  unfold DiskM.sync
  split
  · exact hR
  · split
    · exact hR
    · exact ⟨hR.plan, hR.up⟩
theorem Runs.lsync {D : DiskM} (h : Runs D) (G : LogM) : Runs (LogM.sync D G).1 := by
  unfold LogM.sync
  split
  · exact h
  · split
    · exact h
    · exact h.syn _
theorem Runs.lay {D : DiskM} (h : Runs D) (G : LogM) (p : Option PartM) (q : PartM) (b : List UInt8) : Runs (LogM.lay D G p q b).1 := by
  unfold LogM.lay
  split
  · exact h.app _ _
  · exact h.app _ _
theorem Runs.lapp {D : DiskM} (h : Runs D) (G : LogM) (b : List UInt8) : Runs (LogM.append D G b).1 := by
  unfold LogM.append
  split
  · exact h
  · split
    · exact h.lay _ _ _ _
    · split
      · exact h.lay _ _ _ _
      · split
        · exact h.lsync _
        · exact (h.lsync _).lay _ _ _ _
theorem sync_fine {most : Int} {D : DiskM} {G : LogM} {gs : List Grp} (h : LInv most D G gs) (hR : Runs D) : (LogM.sync D G).2.2 = 0 := by
  rcases snoc_cases gs with rfl | ⟨init, ⟨rs, s⟩, rfl⟩
  · have hp : G.parts = [] := by rw [h.log]; rfl
    unfold LogM.sync; rw [hp]; rfl
  · obtain ⟨hne, hlt, hg, _⟩ := h.init_ne
    have hp : G.parts.getLast? = some ⟨((flat init).length : Nat), rs.length, (frs rs).length⟩ := by rw [h.log]; simp only; rw [mkParts_snoc]; simp
    have hnm : G.name = LOG := by rw [h.log]
    unfold LogM.sync
    rw [hp]
    simp only
    by_cases hd : G.dirty = false
    · rw [if_pos hd]
    · rw [if_neg hd, hnm]
      unfold DiskM.sync
      rw [dn_file _ hlt, hR.step, if_neg (by simp), h.files, mkFiles_snoc, at_last hne hlt (mkFile (flat init).length (rs, s)) rfl]
end Go.Proofs.YtjpcmgoajdjkgaaGreatDoor
