/- A log behind a crash: what Boot leaves is opened, and has all that was safe (plain). -/
import Derived.Test.YtjpcmgoajdjkgaaGreatDoorInvO
set_option linter.all false
namespace Go.Proofs.YtjpcmgoajdjkgaaGreatDoor
open Go.RowKit
open Wal (frameB fourB numB nextB crc fileB)

theorem fileAt_map (φ : FileM → FileM) (hφ : ∀ f, (φ f).name = f.name) (s : List UInt8) : ∀ fs : List FileM, fileAt (fs.map φ) s = (fileAt fs s).map φ
  | [] => rfl
  | f :: r => by
    rw [List.map_cons, fileAt, fileAt, hφ]
    split
    · rfl
    · exact fileAt_map φ hφ s r
theorem bootFile_name (k : Option Int) (f : FileM) : (bootFile k f).name = f.name := rfl

theorem boot_map (kept : List Int) (ss : List (List UInt8)) (hss : ss.Nodup) (fs : List FileM) (hfs : (fs.map (·.name)).Nodup) (hsub : ∀ s ∈ ss, s ∈ fs.map (·.name)) :
    ∀ i, i ≤ ss.length → bootTo kept ss fs i = fs.map fun f => if f.name ∈ ss.take i then bootFile kept[ss.idxOf f.name]? f else f
  | 0, _ => by simp [bootTo]
  | i + 1, hi => by
    have ih := boot_map kept ss hss fs hfs hsub i (by omega)
    obtain ⟨s, hs⟩ : ∃ s, ss[i]? = some s := ⟨_, List.getElem?_eq_getElem (by omega)⟩
    obtain ⟨hi', hsi⟩ := List.getElem?_eq_some_iff.1 hs
    obtain ⟨f, hf⟩ := fileAt_ex (hsub s (List.mem_of_getElem? hs))
    obtain ⟨hfm, hfn⟩ := fileAt_mem hf
    have hnot : s ∉ ss.take i := by
      intro hm
      obtain ⟨j, hj, e⟩ := List.getElem_of_mem hm
      rw [List.getElem_take] at e
      rw [List.length_take] at hj
      exact List.pairwise_iff_getElem.1 hss j i (by omega) hi' (by omega) (e.trans hsi.symm)
    have hidx : ss.idxOf s = i := by
      rw [← hsi]
      exact List.Nodup.idxOf_getElem hss i hi'
    rw [bootTo, ih, bootStep, hs]
    simp only
    rw [fileAt_map _ (fun f => by split <;> simp [bootFile_name]) s fs, hf]
    simp only [Option.map_some]
    rw [hfn, if_neg hnot]
    unfold setFile
    rw [List.map_map]
    apply List.map_congr_left
    intro g hg
    simp only [Function.comp]
    have htk : ss.take (i + 1) = ss.take i ++ [s] := by rw [List.take_succ_eq_append_getElem hi', hsi]
    have hmem : g.name ∈ ss.take (i + 1) ↔ g.name ∈ ss.take i ∨ g.name = s := by rw [htk]; simp
    by_cases hgs : g.name = s
    · have hgf : g = f := List.inj_on_of_nodup_map' hfs hg hfm (hgs.trans hfn.symm)
      subst hgf
      rw [hgs, if_neg hnot, hgs, bootFile_name, hgs, if_pos rfl, if_pos (by rw [← hgs, hmem]; exact .inr hgs), hidx]
    · have e : (if g.name ∈ ss.take i then bootFile kept[ss.idxOf g.name]? g else g).name = g.name := by split <;> simp [bootFile_name]
      rw [e, bootFile_name, hfn, if_neg hgs]
      by_cases hm : g.name ∈ ss.take i
      · rw [if_pos hm, if_pos (hmem.2 (.inl hm))]
      · rw [if_neg hm, if_neg (fun h => (hmem.1 h).elim hm hgs)]

theorem boot_files (D : DiskM) (kept : List Int) (h : (D.files.map (·.name)).Nodup) : ∃ kp : List UInt8 → Option Int, (D.boot kept).files = D.files.map fun f => bootFile (kp f.name) f := by
  refine ⟨fun s => kept[D.names.idxOf s]?, ?_⟩
  have hp : D.names.Perm (D.files.map (·.name)) := List.mergeSort_perm _ _
  show bootTo kept D.names D.files D.names.length = _
  rw [boot_map kept D.names (hp.nodup_iff.2 h) D.files h (fun s hs => hp.mem_iff.1 hs) _ (Nat.le_refl _), List.take_length]
  apply List.map_congr_left
  intro f hf
  rw [if_pos (hp.mem_iff.2 (List.mem_map.2 ⟨f, hf, rfl⟩))]

theorem bootFile_some (k : Option Int) (f : FileM) (h : f.safe ≤ f.b.length) : ∃ n, f.safe ≤ n ∧ n ≤ f.b.length ∧ bootFile k f = ⟨f.name, f.b.take n, n⟩ := by
  unfold bootFile
  cases k with
  | none => exact ⟨f.safe, Nat.le_refl _, h, rfl⟩
  | some k => exact ⟨(min (max (f.safe : Int) k) f.b.length).toNat, by omega, by omega, rfl⟩
theorem bootFile_full (k : Option Int) (f : FileM) (h : f.safe = f.b.length) : bootFile k f = f := by
  obtain ⟨n, h1, h2, h3⟩ := bootFile_some k f (by omega)
  have : n = f.b.length := by omega
  rw [h3, this, List.take_length]
  cases f
  simp only at h
  subst h
  rfl

theorem names_nodup {gs : List Grp} (hne : ∀ g ∈ gs, g.1 ≠ []) (hlt : (flat gs).length < 1000000000) : ((mkFiles 0 gs).map (·.name)).Nodup := by
  rw [mkFiles_names]
  have h := ks_sorted 0 gs hne
  have hr := ks_range 0 gs hne
  generalize ks 0 gs = l at h hr
  induction l with
  | nil => simp
  | cons j r ih =>
    rw [List.pairwise_cons] at h
    rw [List.map_cons, List.nodup_cons]
    refine ⟨fun hm => ?_, ih h.2 fun x hx => hr x (by simp [hx])⟩
    obtain ⟨x, hx, e⟩ := List.mem_map.1 hm
    have h1 := hr x (by simp [hx])
    have h2 := hr j (by simp)
    have := file_inj (by omega) (by omega) e
    have := h.1 x hx
    omega
theorem file_in (pre : List Grp) (g : Grp) (post : List Grp) : mkFile (flat pre).length g ∈ mkFiles 0 (pre ++ g :: post) := by
  rw [mkFiles_append]
  simp [mkFiles]
theorem frs_mono (rs : List (List UInt8)) {i j : Nat} (h : i ≤ j) : (frs (rs.take i)).length ≤ (frs (rs.take j)).length := by
  have : rs.take i = (rs.take j).take i := by rw [List.take_take, Nat.min_eq_left h]
  rw [this]
  conv => rhs; rw [← List.take_append_drop i (rs.take j), frs_append, List.length_append]
  omega

theorem full_files : ∀ (k : Nat) (gs : List Grp), (∀ g ∈ gs, g.2 = (frs g.1).length) → ∀ f ∈ mkFiles k gs, f.safe = f.b.length
  | _, [], _, f, hf => by simp [mkFiles] at hf
  | k, g :: r, h, f, hf => by
    rw [mkFiles, List.mem_cons] at hf
    rcases hf with rfl | hf
    · exact h g (List.mem_cons_self)
    · exact full_files _ r (fun x hx => h x (List.mem_cons_of_mem _ hx)) f hf
theorem small_of {most : Int} {D : DiskM} {G : LogM} {gs : List Grp} (h : LInv most D G gs) : ∀ g ∈ gs, ∀ b ∈ g.1, b.length ≤ 65536 := fun g hg b hb => by
  have := h.small b (List.mem_flatMap.2 ⟨g, hg, hb⟩)
  omega

theorem open_boot {most : Int} {D : DiskM} {G : LogM} {gs : List Grp} (h : LInv most D G gs) (hmost : 1 ≤ most) (kept : List Int) :
    ∃ D' G' e, openM (D.boot kept) LOG most = (D', some G', 0) ∧ G'.first = 0 ∧ G'.recs = (flat gs).take e ∧ e ≤ (flat gs).length ∧ ∀ m, Syn gs m → m ≤ e := by
  have hlt : (flat gs).length < 1000000000 := by have := h.few; omega
  have hnd : (D.files.map (·.name)).Nodup := by rw [h.files]; exact names_nodup h.ne hlt
  obtain ⟨kp, hkp⟩ := boot_files D kept hnd
  have hR : Runs (D.boot kept) := ⟨rfl, rfl⟩
  have hnames : ((D.boot kept).files).map (·.name) = (ks 0 gs).map fun (j : Nat) => fileB LOG (j : Int) := by
    rw [hkp, List.map_map, ← mkFiles_names, h.files]
    rfl
  have hnum : numbersB LOG (D.boot kept).names = (ks 0 gs).map fun (j : Nat) => (j : Int) := by
    refine numbers_ks h.ne hlt ?_
    rw [← hnames]
    exact List.mergeSort_perm _ _
  unfold openM
  rw [nm0, if_neg (by simp; omega), if_neg (by rw [hR.up]; simp), hnum]
  rcases snoc_cases gs with rfl | ⟨init, ⟨rs, s⟩, rfl⟩
  · refine ⟨D.boot kept, LogM.new LOG most, 0, rfl, rfl, rfl, Nat.zero_le _, fun m hm => ?_⟩
    simpa [flat] using hm.1
  · obtain ⟨hne, hltI, hg, hsum⟩ := h.init_ne
    have hsm := small_of h
    obtain ⟨n, hn1, hn2, hn3⟩ := bootFile_some (kp (fileB LOG (((flat init).length : Nat) : Int))) (mkFile (flat init).length (rs, s)) (h.le (rs, s) (by simp))
    have hfiles : (D.boot kept).files = mkFiles 0 init ++ [⟨fileB LOG (((flat init).length : Nat) : Int), (frs rs).take n, n⟩] := by
      rw [hkp, h.files, mkFiles_snoc, List.map_append]
      congr 1
      · have hf := h.full
        rw [List.dropLast_concat] at hf
        have hfull := full_files 0 init hf
        conv => rhs; rw [← List.map_id (mkFiles 0 init)]
        apply List.map_congr_left
        intro f hf
        exact bootFile_full _ f (hfull f hf)
      · simp only [List.map_cons, List.map_nil]
        congr 1
    have hnd2 : ((D.boot kept).files.map (·.name)).Nodup := by rw [hnames, ← mkFiles_names]; exact names_nodup h.ne hlt
    rw [ks_append, List.map_append]
    obtain ⟨D', P', i', k1, k2, k3, k4⟩ := openAll_full (((ks (0 + (flat init).length) [((rs, s) : Grp)]).map fun (j : Nat) => (j : Int))) (by simp [ks]) init 0 0 (D.boot kept) (LogM.new LOG most) hR rfl rfl rfl (fun _ => rfl) hne
      (fun g hg => hsm g (by simp [hg])) (by omega) (fun pre g post e => by
        refine ⟨mkFile (flat pre).length g, ?_, rfl⟩
        rw [Nat.zero_add]
        exact fileAt_of hnd2 (f := mkFile (flat pre).length g) (by rw [hfiles, e]; exact List.mem_append_left _ (file_in pre g post)))
    rw [k4]
    simp only [ks, List.map_cons, List.map_nil, Nat.zero_add]
    have hat : fileAt D'.files (fileB LOG (((flat init).length : Nat) : Int)) = some ⟨fileB LOG (((flat init).length : Nat) : Int), (frs rs).take n, n⟩ := by
      rw [k2]
      exact fileAt_of hnd2 (f := ⟨fileB LOG (((flat init).length : Nat) : Int), (frs rs).take n, n⟩) (by rw [hfiles]; simp)
    obtain ⟨j, D2, P2, j1, j2, j3, j4⟩ := load_cut k1 (G := { LogM.new LOG most with recs := [] ++ flat init, parts := P' }) (k := (flat init).length) hltI rfl (by simp [LogM.fin, LogM.new]) hat (rs := rs) (n := n) hn2 rfl (hsm (rs, s) (by simp))
    rw [openAll]
    have hg0 : (if i' = 0 then ({ LogM.new LOG most with recs := (LogM.new LOG most).recs ++ flat init, parts := P', first := (((flat init).length : Nat) : Int) } : LogM) else { LogM.new LOG most with recs := (LogM.new LOG most).recs ++ flat init, parts := P' }) = { LogM.new LOG most with recs := [] ++ flat init, parts := P' } := by
      split
      · rename_i hi
        obtain ⟨e, _⟩ := k3 hi
        subst e
        rfl
      · rfl
    simp only [List.isEmpty_nil]
    rw [hg0, j4, if_neg (by simp), openAll]
    refine ⟨D2, _, (flat init).length + j, rfl, rfl, ?_, ?_, fun m hm => ?_⟩
    · simp only [List.nil_append]
      have e : (flat (init ++ [((rs, s) : Grp)])).take ((flat init).length + j) = flat init ++ rs.take j := by
        rw [flat_append, flat_one, List.take_append, List.take_of_length_le (l := flat init) (by omega), show (flat init).length + j - (flat init).length = j by omega]
      rw [e]
    · rw [flat_append, flat_one, List.length_append]; simp only; omega
    · have h1 := hm.1
      rw [flat_append, flat_one, List.length_append] at h1
      simp only at h1
      rcases j3 with j3 | j3
      · omega
      · have h2 := hm.2 init rs s rfl
        rcases Nat.lt_or_ge ((flat init).length + j) m with hlt2 | hge
        · exfalso
          have h3 := frs_mono rs (i := j + 1) (j := m - (flat init).length) (by omega)
          have h4 : s ≤ n := hn1
          omega
        · exact hge
end Go.Proofs.YtjpcmgoajdjkgaaGreatDoor
