/- The law DiskKeeps, by definition: a book of the calls' answers, and that it is what the disk keeps. No program in sight. -/
import Derived.Test.YtekcoeonlfmebaaWholeM
namespace Go.Proofs.Ytekcoeonlfmebaa.Kit

/-- The book behind an act that went well. -/
def notedM (l : List Fl) (o : OpV) : List Fl :=
  if o.kind = 3 then l ++ [⟨pressed o.name, [], 0⟩]
  else if o.kind = 4 then updF (pressed o.name) (fun f => { f with data := f.data ++ o.body }) l
  else if o.kind = 5 then updF (pressed o.name) (fun f => { f with syn := f.data.length }) l
  else if o.kind = 6 then (if pressed o.name = pressed o.to then l else updF (pressed o.name) (fun f => { f with name := pressed o.to }) (outF (pressed o.to) l))
  else if o.kind = 7 then outF (pressed o.name) l else l

theorem pressed_good (n : List UInt8) : goodN (pressed n) = true := by
  have h := pressed_mem n
  have : ∀ m ∈ pressN, goodN m = true := by decide
  exact this _ h
theorem change_ok {s : DS} {e : Nat} {h : DS → DS} (h0 : (s.change e h).1 = 0) : e = 0 ∧ (s.change e h).2 = h { s with fuse := if 0 < s.fuse then s.fuse - 1 else s.fuse } := by
  unfold DS.change at *
  split at h0
  · simp at h0
  rename_i hd
  split at h0
  · rename_i he
    exact absurd h0 he
  rename_i he
  split at h0
  · simp at h0
  rename_i hf
  have he' : e = 0 := by omega
  refine ⟨he', ?_⟩
  rw [if_neg hd, if_neg (by omega), if_neg hf]
theorem change_not {s : DS} {e : Nat} {h : DS → DS} (h0 : (s.change e h).1 ≠ 0) : (s.change e h).2.files = s.files := by
  unfold DS.change at *
  split
  · rfl
  split
  · rfl
  split
  · rfl
  · rename_i h1 h2 h3
    rw [if_neg h1, if_neg h2, if_neg h3] at h0
    exact absurd rfl h0
theorem there_ok {s : DS} {n : Nm} (h : s.there n = 0) : (s.find n).isSome = true := by
  unfold DS.there at h
  split at h
  · split at h
    · assumption
    · simp at h
  · simp at h
theorem perm_find {l m : List Fl} (h : l.Perm m) (hn : (m.map (·.name)).Nodup) (n : Nm) : l.find? (fun f => f.name == n) = m.find? (fun f => f.name == n) := find_perm h ((h.map _).nodup_iff.2 hn) n
theorem updF_none {n : Nm} {h : Fl → Fl} {l : List Fl} (hl : ∀ g ∈ l, g.name ≠ n) : updF n h l = l := by
  unfold updF
  refine (List.map_congr_left (g := id) fun g hg => ?_).trans (List.map_id l)
  rw [if_neg (hl g hg)]
  rfl
theorem moved_perm {l : List Fl} (hn : (l.map (·.name)).Nodup) {a b : Nm} (hab : a ≠ b) (hf : (l.find? (fun f => f.name == a)).isSome = true) :
    (updF a (fun f => { f with name := b }) (outF b l)).Perm (moved a b l) := by
  obtain ⟨f, hf⟩ := Option.isSome_iff_exists.1 hf
  obtain ⟨hfn, l1, l2, rfl, hne⟩ := cut_at hf hn
  unfold moved
  rw [if_neg hab, hf]
  refine List.Perm.trans ?_ (ins_perm _ _).symm
  have e1 : outF b (l1 ++ f :: l2) = outF b l1 ++ f :: outF b l2 := by
    unfold outF
    rw [List.filter_append, List.filter_cons_of_pos (by simp [hfn, hab])]
  have hne' : ∀ g ∈ outF b l1 ++ outF b l2, g.name ≠ a := fun g hg => hne g (by
    rcases List.mem_append.1 hg with h | h
    · exact List.mem_append_left _ (List.mem_filter.1 h).1
    · exact List.mem_append_right _ (List.mem_filter.1 h).1)
  rw [e1, updF_cut hfn hne', outF_cut hfn hne]
  have e2 : outF b (l1 ++ l2) = outF b l1 ++ outF b l2 := by unfold outF; rw [List.filter_append]
  rw [e2]
  exact List.perm_middle

/-- What a book that is the disk's files goes on to be. -/
theorem noted_perm {s : DS} (hs : s.Ok) {l : List Fl} (hl : l.Perm s.files) (o : OpV) (hk : 3 ≤ o.kind ∧ o.kind ≤ 7) (h0 : (o.act s).1 = 0) :
    (notedM l o).Perm (o.act s).2.files ∧ (o.kind = 3 → l.find? (fun f => f.name == pressed o.name) = none) ∧ (o.kind ≠ 3 → (l.find? (fun f => f.name == pressed o.name)).isSome = true) := by
  have hf := perm_find hl (Rise.nodup hs.rise)
  have hss : ∀ n, s.find n = s.files.find? (fun f => f.name == n) := fun _ => rfl
  by_cases h3 : o.kind = 3
  · have ea : o.act s = s.create (pressed o.name) := by unfold OpV.act; rw [if_pos h3]
    have en : notedM l o = l ++ [⟨pressed o.name, [], 0⟩] := by unfold notedM; rw [if_pos h3]
    rw [ea] at h0
    rw [ea, en]
    clear ea en
    unfold DS.create at *
    obtain ⟨he, hr⟩ := change_ok h0
    rw [hr]
    refine ⟨?_, fun _ => ?_, fun h => absurd h3 h⟩
    · refine List.Perm.trans ?_ (ins_perm _ _).symm
      exact (List.perm_append_comm).trans (hl.cons _)
    · rw [if_pos (pressed_good _)] at he
      rw [hf]
      split at he
      · simp at he
      · rename_i hn
        rw [hss] at hn
        simpa using hn
  by_cases h4 : o.kind = 4
  · have ea : o.act s = s.append (pressed o.name) o.body := by unfold OpV.act; rw [if_neg h3, if_pos h4]
    have en : notedM l o = updF (pressed o.name) (fun f => { f with data := f.data ++ o.body }) l := by unfold notedM; rw [if_neg h3, if_pos h4]
    rw [ea] at h0
    rw [ea, en]
    clear ea en
    unfold DS.append at *
    obtain ⟨he, hr⟩ := change_ok h0
    rw [hr]
    refine ⟨hl.map _, fun h => absurd h h3, fun _ => ?_⟩
    rw [hf]
    split at he
    · rename_i h
      exact absurd he h
    · rename_i h
      exact there_ok (by omega)
  by_cases h5 : o.kind = 5
  · have ea : o.act s = s.sync (pressed o.name) := by unfold OpV.act; rw [if_neg h3, if_neg h4, if_pos h5]
    have en : notedM l o = updF (pressed o.name) (fun f => { f with syn := f.data.length }) l := by unfold notedM; rw [if_neg h3, if_neg h4, if_pos h5]
    rw [ea] at h0
    rw [ea, en]
    clear ea en
    unfold DS.sync at *
    obtain ⟨he, hr⟩ := change_ok h0
    rw [hr]
    refine ⟨hl.map _, fun h => absurd h h3, fun _ => ?_⟩
    rw [hf]
    exact there_ok he
  by_cases h6 : o.kind = 6
  · have ea : o.act s = s.rename (pressed o.name) (pressed o.to) := by unfold OpV.act; rw [if_neg h3, if_neg h4, if_neg h5, if_pos h6]
    have en : notedM l o = (if pressed o.name = pressed o.to then l else updF (pressed o.name) (fun f => { f with name := pressed o.to }) (outF (pressed o.to) l)) := by unfold notedM; rw [if_neg h3, if_neg h4, if_neg h5, if_pos h6]
    rw [ea] at h0
    rw [ea, en]
    clear ea en
    unfold DS.rename at *
    obtain ⟨he, hr⟩ := change_ok h0
    rw [hr]
    rw [if_pos (pressed_good _)] at he
    have hso := there_ok he
    refine ⟨?_, fun h => absurd h h3, fun _ => by rw [hf]; exact hso⟩
    by_cases hab : pressed o.name = pressed o.to
    · rw [if_pos hab]
      unfold moved
      rw [if_pos hab]
      exact hl
    · rw [if_neg hab]
      exact ((hl.filter _).map _).trans (moved_perm (Rise.nodup hs.rise) hab hso)
  have h7 : o.kind = 7 := by omega
  have ea : o.act s = s.remove (pressed o.name) := by unfold OpV.act; rw [if_neg h3, if_neg h4, if_neg h5, if_neg h6, if_pos h7]
  have en : notedM l o = outF (pressed o.name) l := by unfold notedM; rw [if_neg h3, if_neg h4, if_neg h5, if_neg h6, if_pos h7]
  rw [ea] at h0
  rw [ea, en]
  clear ea en
  unfold DS.remove at *
  obtain ⟨he, hr⟩ := change_ok h0
  rw [hr]
  refine ⟨hl.filter _, fun h => absurd h h3, fun _ => ?_⟩
  rw [hf]
  exact there_ok he
/-- An act that changes no file. -/
theorem noted_not {s : DS} (o : OpV) (hk : o.kind ≠ 14) (h0 : (o.act s).1 ≠ 0 ∨ o.kind = 12) : (o.act s).2.files = s.files := by
  rcases h0 with h0 | h12
  · unfold OpV.act at *
    split
    · rename_i h; rw [if_pos h] at h0; exact change_not h0
    rename_i h3; rw [if_neg h3] at h0
    split
    · rename_i h; rw [if_pos h] at h0; exact change_not h0
    rename_i h4; rw [if_neg h4] at h0
    split
    · rename_i h; rw [if_pos h] at h0; exact change_not h0
    rename_i h5; rw [if_neg h5] at h0
    split
    · rename_i h; rw [if_pos h] at h0; exact change_not h0
    rename_i h6; rw [if_neg h6] at h0
    split
    · rename_i h; rw [if_pos h] at h0; exact change_not h0
    rename_i h7; rw [if_neg h7] at h0
    split
    · unfold DS.setFuse
      split
      · rfl
      · split <;> rfl
    first
    | rfl
    | (split
       · rename_i h; exact absurd h hk
       · rfl)
  · unfold OpV.act
    rw [if_neg (by omega), if_neg (by omega), if_neg (by omega), if_neg (by omega), if_neg (by omega), if_pos h12]
    unfold DS.setFuse
    split
    · rfl
    · split <;> rfl

/-! ### A crash -/
def setAll (C : List Fl) (l : List Fl) : List Fl := C.foldl (fun l f => updF f.name (fun _ => f) l) l
def setOne (C : List Fl) (g : Fl) : Fl := C.foldl (fun g f => if g.name = f.name then f else g) g
theorem setAll_map (C : List Fl) : ∀ l, setAll C l = l.map (setOne C) := by
  induction C with
  | nil => intro l; exact (List.map_id l).symm
  | cons f C ih =>
    intro l
    show setAll C (updF f.name (fun _ => f) l) = _
    rw [ih]
    unfold updF
    rw [List.map_map]
    rfl
theorem setOne_name (C : List Fl) : ∀ g, (setOne C g).name = g.name := by
  induction C with
  | nil => intro g; rfl
  | cons f C ih =>
    intro g
    show (setOne C (if g.name = f.name then f else g)).name = _
    rw [ih]
    split
    · rename_i h; exact h.symm
    · rfl
theorem setOne_none {C : List Fl} : ∀ {g : Fl}, (∀ f ∈ C, f.name ≠ g.name) → setOne C g = g := by
  induction C with
  | nil => intro g _; rfl
  | cons f C ih =>
    intro g h
    show setOne C (if g.name = f.name then f else g) = _
    rw [if_neg (fun e => h f List.mem_cons_self e.symm)]
    exact ih fun x hx => h x (List.mem_cons_of_mem _ hx)
theorem setOne_all : ∀ {F C : List Fl}, F.map (·.name) = C.map (·.name) → (C.map (·.name)).Nodup → F.map (setOne C) = C
  | [], [], _, _ => rfl
  | [], _ :: _, h, _ => by simp at h
  | _ :: _, [], h, _ => by simp at h
  | g :: F, f :: C, h, hn => by
    rw [List.map_cons, List.map_cons, List.cons.injEq] at h
    rw [List.map_cons, List.nodup_cons] at hn
    have h1 : ∀ x ∈ C, x.name ≠ f.name := fun x hx e => hn.1 (List.mem_map.2 ⟨x, hx, e⟩)
    rw [List.map_cons]
    have e1 : setOne (f :: C) g = f := by
      show setOne C (if g.name = f.name then f else g) = f
      rw [if_pos h.1]
      exact setOne_none h1
    have e2 : F.map (setOne (f :: C)) = F.map (setOne C) := List.map_congr_left fun x hx => by
      show setOne C (if x.name = f.name then f else x) = _
      rw [if_neg]
      intro e
      have : x.name ∈ C.map (·.name) := h.2 ▸ List.mem_map.2 ⟨x, hx, rfl⟩
      exact hn.1 (e ▸ this)
    rw [e1, e2, setOne_all h.2 hn.2]
theorem setAll_perm {F C l : List Fl} (hl : l.Perm F) (hC : F.map (·.name) = C.map (·.name)) (hn : (C.map (·.name)).Nodup) : (setAll C l).Perm C := by
  rw [setAll_map]
  have := hl.map (setOne C)
  rwa [setOne_all hC hn] at this
theorem setAll_snoc (C : List Fl) (f : Fl) (l : List Fl) : setAll (C ++ [f]) l = updF f.name (fun _ => f) (setAll C l) := by unfold setAll; rw [List.foldl_append]; rfl
/-- A file behind a crash, and what it was. -/
def Cr (g f : Fl) : Prop := f.name = g.name ∧ f.data.length ≤ g.data.length ∧ g.syn ≤ f.data.length ∧ f.syn = f.data.length ∧ f.data = g.data.take f.data.length
theorem crashed_get (keep : List Int) : ∀ (l : List Fl) (i j : Nat) (g : Fl), (∀ g ∈ l, g.syn ≤ g.data.length) → l[j]? = some g → ∃ f, (crashed keep i l)[j]? = some f ∧ Cr g f
  | [], _, _, _, _, h => by simp at h
  | x :: l, i, j, g, hs, h => by
    rw [crashed]
    cases j with
    | zero =>
      simp only [List.getElem?_cons_zero, Option.some.injEq] at h
      subst h
      refine ⟨_, rfl, rfl, ?_, ?_, ?_, ?_⟩
      · show (x.data.take (leftOf x i keep)).length ≤ _
        rw [List.length_take]
        omega
      · show x.syn ≤ (x.data.take (leftOf x i keep)).length
        have := hs x List.mem_cons_self
        rw [List.length_take]
        unfold leftOf
        split <;> omega
      · show leftOf x i keep = (x.data.take (leftOf x i keep)).length
        have := hs x List.mem_cons_self
        rw [List.length_take]
        unfold leftOf
        split <;> omega
      · show x.data.take (leftOf x i keep) = x.data.take (x.data.take (leftOf x i keep)).length
        rw [List.length_take]
        by_cases h : leftOf x i keep ≤ x.data.length
        · rw [Nat.min_eq_left h]
        · rw [Nat.min_eq_right (by omega), List.take_length, List.take_of_length_le (by omega)]
    | succ j =>
      rw [List.getElem?_cons_succ] at h ⊢
      exact crashed_get keep l (i + 1) j g (fun g hg => hs g (List.mem_cons_of_mem _ hg)) h
theorem crashed_names (keep : List Int) : ∀ (l : List Fl) (i : Nat), (crashed keep i l).map (·.name) = l.map (·.name)
  | [], _ => rfl
  | x :: l, i => by rw [crashed, List.map_cons, List.map_cons, crashed_names keep l (i + 1)]
theorem crashed_len (keep : List Int) (l : List Fl) (i : Nat) : (crashed keep i l).length = l.length := by
  have := congrArg List.length (crashed_names keep l i)
  simpa using this
/-- The round of 'stays' at a file: where it stands in the book, and what the book says of it. -/
theorem stays_at {F C l : List Fl} (hl : l.Perm F) (hC : F.map (·.name) = C.map (·.name)) (hn : (C.map (·.name)).Nodup) {i : Nat} {g f : Fl} (hg : F[i]? = some g) (hf : C[i]? = some f) :
    ∃ k : Nat, (setAll (C.take i) l)[k]? = some g ∧ (∀ (m : Nat) (x : Fl), (setAll (C.take i) l)[m]? = some x → x.name = g.name → m = k) ∧ (setAll (C.take i) l).set k f = setAll (C.take (i + 1)) l := by
  have hfn : f.name = g.name := by
    have := congrArg (fun l : List Nm => l[i]?) hC
    simp only [List.getElem?_map, hg, hf, Option.map_some, Option.some.injEq] at this
    exact this.symm
  have hgm : g ∈ l := hl.mem_iff.2 (List.mem_of_getElem? hg)
  have hi : i < C.length := (List.getElem?_eq_some_iff.1 hf).1
  have hpre : ∀ x ∈ C.take i, x.name ≠ g.name := by
    intro x hx e
    have hsp : C = C.take i ++ f :: C.drop (i + 1) := by
      have h1 := List.take_append_drop i C
      rw [List.drop_eq_getElem_cons hi] at h1
      have h2 : C[i] = f := (List.getElem?_eq_some_iff.1 hf).2
      rw [h2] at h1
      exact h1.symm
    rw [hsp, List.map_append, List.map_cons, List.nodup_append] at hn
    exact hn.2.2 x.name (List.mem_map.2 ⟨x, hx, rfl⟩) f.name List.mem_cons_self (e.trans hfn.symm)
  have hnl : ((setAll (C.take i) l).map (·.name)).Nodup := by
    rw [setAll_map, List.map_map]
    have e : ((fun x : Fl => x.name) ∘ setOne (C.take i)) = fun x => x.name := funext fun x => setOne_name _ x
    rw [e]
    exact ((hl.map _).nodup_iff.2 (hC ▸ hn))
  have hgm' : g ∈ setAll (C.take i) l := by
    rw [setAll_map]
    exact List.mem_map.2 ⟨g, hgm, setOne_none hpre⟩
  obtain ⟨l1, l2, hcut⟩ := List.append_of_mem hgm'
  refine ⟨l1.length, by rw [hcut]; simp, fun m x hm hx => ?_, ?_⟩
  · have hL := List.getElem?_eq_some_iff.1 hm
    have e1 : ((setAll (C.take i) l).map (·.name))[m]? = some g.name := by rw [List.getElem?_map, hm, ← hx]; rfl
    have e2 : ((setAll (C.take i) l).map (·.name))[l1.length]? = some g.name := by rw [hcut]; simp
    have h1 := (List.getElem?_eq_some_iff.1 e1).1
    exact (List.getElem?_inj h1 hnl).1 (e1.trans e2.symm)
  · have htk : C.take (i + 1) = C.take i ++ [f] := by rw [List.take_add_one, hf]; rfl
    rw [htk, setAll_snoc, hcut]
    rw [hcut] at hnl
    have hne : ∀ x ∈ l1 ++ l2, x.name ≠ f.name := fun x hx => hfn ▸ nodup_of_map hnl rfl x hx
    rw [updF_cut hfn.symm hne]
    simp
end Go.Proofs.Ytekcoeonlfmebaa.Kit
