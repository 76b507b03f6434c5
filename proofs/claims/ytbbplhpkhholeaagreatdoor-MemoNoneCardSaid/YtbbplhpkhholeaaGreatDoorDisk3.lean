/- Package disk: what a raw write makes of the files. -/
import Derived.Test.YtbbplhpkhholeaaGreatDoorDisk2
set_option linter.unusedVariables false
set_option linter.unusedSimpArgs false
set_option maxRecDepth 20000
namespace Go.Proofs.YtbbplhpkhholeaaGreatDoor
open Go.RowKit Go.Maps

theorem keyLit (s : ByteArray) : WideAt.IsKeyLit (key s) := trivial
theorem row_ne_st {w : World} {B n p : Nat} {size : Nat} {v : Value} {vs : List Value} {T e : TypeId} {cs : Array Value} (h : w.ownsRow B e size v n vs) (hs : St w p T cs) (ht : e ≠ T) : v.ownBlock ≠ some p := by
  intro e
  rcases h.2 with ⟨rfl, _⟩ | ⟨g', cap, cur, rfl, _, hh, _⟩
  · cases e
  · simp only [Value.ownBlock, Option.map_some, Option.some.injEq] at e
    subst e
    unfold St at hs
    rw [hh] at hs
    injection hs with hs
    injection hs with _ h2
    exact ht h2
theorem row_ne_map {w : World} {B n m mb : Nat} {size : Nat} {v : Value} {vs : List Value} {e : TypeId} {P : Program} {k : TypeId} {D : DataW Value} (h : w.ownsRow B e size v n vs) (hs : w.ownsMap P k HR mb m D) : v.ownBlock ≠ some mb := by
  intro e
  rcases h.2 with ⟨rfl, _⟩ | ⟨g', cap, cur, rfl, _, hh, _⟩
  · cases e
  · simp only [Value.ownBlock, Option.map_some, Option.some.injEq] at e
    subst e
    exact ownsMap_ne hs hh rfl
/-- Put a file. -/
theorem FilesIn.put {T : Nat → Prop} {w w' : World} {D : DataW Value} {fs : Fls} {s : ByteArray} {v : Value} {bs : List Int} (h : FilesIn w D fs) (hD : Tidy D) (hsm : ∀ k, (look D k).isSome = has D k)
    (hb : Byts bs) (hl : bs.length ≤ 4194304) (hown : w'.ownsRow 0 5 1 v bs.length (numsV .u8 bs)) (hf : Fr T w w')
    (hT : ∀ s' v' g, s' ≠ s → look D (key s') = some v' → v'.ownBlock = some g → ¬ T g ∧ v.ownBlock ≠ some g) : FilesIn w' (D.put (key s) (.held v)) (fput fs s bs) := by
  have hne : ∀ {s' : ByteArray}, s' ≠ s → key s' ≠ key s := fun n e => n (key_inj e)
  have hsame := look_put_same hD.isMap (keyLit s) v
  have hother : ∀ {s'}, s' ≠ s → look (D.put (key s) (.held v)) (key s') = look D (key s') := fun n => look_put_other (hne n) v
  refine ⟨?_, names_put_nodup h.nodup, ?_, ?_, ?_⟩
  · rw [size_put hD, length_put h.nodup, h.size, ← hsm]
    cases hfl : flook fs s with
    | none => rw [h.no s hfl]; rfl
    | some b => obtain ⟨_, _, v', hv', _⟩ := h.yes s b hfl; rw [hv']; rfl
  · intro s' bs' hs'
    by_cases e : s' = s
    · subst e
      rw [flook_put_same] at hs'
      cases hs'
      exact ⟨hb, hl, v, hsame, hown⟩
    · rw [flook_put_other e] at hs'
      obtain ⟨hb', hl', v', hv', hown'⟩ := h.yes s' bs' hs'
      refine ⟨hb', hl', v', by rw [hother e, hv'], hown'.1, ?_⟩
      rcases hown'.2 with h2 | ⟨g, cap, cur, rfl, hb0, hh, r⟩
      · exact .inl h2
      · exact .inr ⟨g, cap, cur, rfl, hb0, hf.heap hh (hT s' _ g e hv' rfl).1, r⟩
  · intro s' hs'
    by_cases e : s' = s
    · subst e; rw [flook_put_same] at hs'; cases hs'
    · rw [flook_put_other e] at hs'
      rw [hother e, h.no s' hs']
  · intro s1 s2 v1 v2 g h1 h2 g1 g2
    by_cases e1 : s1 = s
    · by_cases e2 : s2 = s
      · rw [e1, e2]
      · subst e1
        rw [hsame] at h1; cases h1
        rw [hother e2] at h2
        exact absurd g1 (hT s2 v2 g e2 h2 g2).2
    · by_cases e2 : s2 = s
      · subst e2
        rw [hsame] at h2; cases h2
        rw [hother e1] at h1
        exact absurd g2 (hT s1 v1 g e1 h1 g1).2
      · rw [hother e1] at h1
        rw [hother e2] at h2
        exact h.apart s1 s2 v1 v2 g h1 h2 g1 g2
/-- Take a file away. -/
theorem FilesIn.del {T : Nat → Prop} {w w' : World} {D : DataW Value} {fs : Fls} {s : ByteArray} (h : FilesIn w D fs) (hD : Tidy D) (hsm : ∀ k, (look D k).isSome = has D k)
    (hf : Fr T w w') (hT : ∀ s' v' g, s' ≠ s → look D (key s') = some v' → v'.ownBlock = some g → ¬ T g) : FilesIn w' (D.del (key s)) (fdel fs s) := by
  have hne : ∀ {s' : ByteArray}, s' ≠ s → key s' ≠ key s := fun n e => n (key_inj e)
  have hother : ∀ {s'}, s' ≠ s → look (D.del (key s)) (key s') = look D (key s') := fun n => look_del_other (hne n)
  have hsame : look (D.del (key s)) (key s) = none := look_del_same
  refine ⟨?_, names_del_nodup h.nodup, ?_, ?_, ?_⟩
  · have h1 := size_del hD (k := key s)
    have h2 := length_del h.nodup (s := s)
    rw [h.size, ← hsm] at h1
    cases hfl : flook fs s with
    | none => rw [h.no s hfl] at h1; rw [hfl] at h2; simp at h1 h2; omega
    | some b => obtain ⟨_, _, v', hv', _⟩ := h.yes s b hfl; rw [hv'] at h1; rw [hfl] at h2; simp at h1 h2; omega
  · intro s' bs' hs'
    by_cases e : s' = s
    · subst e
      rw [flook_del_same] at hs'; cases hs'
    · rw [flook_del_other e] at hs'
      obtain ⟨hb', hl', v', hv', hown'⟩ := h.yes s' bs' hs'
      refine ⟨hb', hl', v', by rw [hother e, hv'], hown'.1, ?_⟩
      rcases hown'.2 with h2 | ⟨g, cap, cur, rfl, hb0, hh, r⟩
      · exact .inl h2
      · exact .inr ⟨g, cap, cur, rfl, hb0, hf.heap hh (hT s' _ g e hv' rfl), r⟩
  · intro s' hs'
    by_cases e : s' = s
    · subst e; exact hsame
    · rw [flook_del_other e] at hs'
      rw [hother e, h.no s' hs']
  · intro s1 s2 v1 v2 g h1 h2 g1 g2
    have e1 : s1 ≠ s := by rintro rfl; rw [hsame] at h1; cases h1
    have e2 : s2 ≠ s := by rintro rfl; rw [hsame] at h2; cases h2
    rw [hother e1] at h1
    rw [hother e2] at h2
    exact h.apart s1 s2 v1 v2 g h1 h2 g1 g2
theorem noBlock {w : World} {p : Nat} {d : Dk} {S : Nat → Prop} (h : IsDisk w p d S) {mb : Nat} {D : DataW Value} {s : ByteArray} {v : Value} {T : TypeId} {cs : Array Value} {q : Nat} (h3 : FilesIn w D d.fs) (hv : look D (key s) = some v)
    (hq : St w q T cs) (hT : 5 ≠ T) : v.ownBlock ≠ some q := by
  cases hl : flook d.fs s with
  | none => have := h3.no s hl; rw [this] at hv; cases hv
  | some bs =>
    obtain ⟨_, _, v', hv', hown⟩ := h3.yes s bs hl
    rw [hv] at hv'
    cases hv'
    exact row_ne_st hown hq hT
theorem noBlockMap {w : World} {fs : Fls} {mb n : Nat} {D D' : DataW Value} {s : ByteArray} {v : Value} (h3 : FilesIn w D fs) (hv : look D (key s) = some v)
    (hm : w.ownsMap Tryz.prog 9 HR mb n D') : v.ownBlock ≠ some mb := by
  cases hl : flook fs s with
  | none => have := h3.no s hl; rw [this] at hv; cases hv
  | some bs =>
    obtain ⟨_, _, v', hv', hown⟩ := h3.yes s bs hl
    rw [hv] at hv'
    cases hv'
    exact row_ne_map hown hm
/-- What bounds a disk keeps. -/
structure DkOk (d : Dk) : Prop where
  w0 : 0 ≤ d.writes
  w1 : d.writes ≤ 4611686018427387904
  l0 : 0 ≤ d.left
  l1 : d.left ≤ 4611686018427387904
  n1 : d.fs.length ≤ 256
/-- The raw write's own contract, at a disk. -/
theorem raw_disk (w : World) (p : Nat) (d : Dk) (S : Nat → Prop) (g : Nat) (caps : Array Value) (R : World → Prop) (h : IsDisk w p d S) (hd : DkOk d) (hg : ∀ args w, (callFunc g args).run Tryz.prog w = .ok (.enter g args) w)
    (hdo : ∀ w1 d1, d.raw = some d1 → IsDisk w1 p d1 S → Fr (fun k => k = p) w w1 → w1.heap.size = w.heap.size → Calls Tryz.prog g caps w1 fun en w' => en = .returned (.tuple #[]) ∧ R w') :
    Calls Tryz.prog 51 #[.pointer (some ⟨p, 0, none⟩), .func (.func g) #[] caps] w fun en w' => (d.raw = none ∧ en = .returned (.int .i64 6) ∧ w = w') ∨ ((∃ d1, d.raw = some d1) ∧ en = .returned (.int .i64 0) ∧ R w') := by
  obtain ⟨mb, D, h1, _⟩ := id h
  by_cases hz : d.cut = true ∧ d.left = 0
  · obtain ⟨fs, wr, left, cut⟩ := d
    obtain ⟨rfl, rfl⟩ := hz
    refine (raw_no w p _ wr _ h1).mono ?_
    rintro e w1 ⟨rfl, rfl⟩
    exact .inl ⟨by simp [Dk.raw], rfl, rfl⟩
  · have hr : ∃ d1, d.raw = some d1 ∧ d1.fs = d.fs ∧ (∀ mb, St w p 106 #[.map (some mb), .int .i64 d.writes, .int .i64 d.left, .bool d.cut] → St (rawW w p d) p 106 #[.map (some mb), .int .i64 d1.writes, .int .i64 d1.left, .bool d1.cut]) := by
      unfold Dk.raw rawW
      by_cases hc : d.cut = true
      · have hl : d.left ≠ 0 := fun e => hz ⟨hc, e⟩
        refine ⟨{ d with left := d.left - 1, writes := d.writes + 1 }, by rw [if_pos hc, if_neg hl], rfl, fun mb h => ?_⟩
        rw [if_pos hc]
        have := (h.set 2 (.int .i64 (d.left - 1))).set 1 (.int .i64 (d.writes + 1))
        simpa using this
      · refine ⟨{ d with writes := d.writes + 1 }, by rw [if_neg hc], rfl, fun mb h => ?_⟩
        rw [if_neg hc]
        have := h.set 1 (.int .i64 (d.writes + 1))
        simpa using this
    obtain ⟨d1, hr1, hr2, hr3⟩ := hr
    have hf : Fr (fun k => k = p) w (rawW w p d) := by
      unfold rawW
      split
      · exact ((Fr.refl _ w).set _ _).set _ _
      · exact (Fr.refl _ w).set _ _
    have hsz : (rawW w p d).heap.size = w.heap.size := by
      unfold rawW
      split <;> simp [World.setCell]
    refine (raw_yes w p _ d g caps R h1 hd.w0 hd.w1 hd.l0 hd.l1 (fun hc e => hz ⟨hc, e⟩) hg (hdo _ d1 hr1 (h.turn hf hr2 hr3) hf hsz)).mono ?_
    rintro e w1 ⟨rfl, hR⟩
    exact .inr ⟨⟨d1, hr1⟩, rfl, hR⟩

/-- Append's closure: bytes put behind a file's end. -/
theorem append2_disk (w : World) (p : Nat) (d : Dk) (S : Nat → Prop) (a b c : Nat) (s : ByteArray) (pb po pc : Nat) (news : List Int) (h : IsDisk w p d S) (hs : s.size ≤ maxLen) (hn : d.fs.length ≤ 256)
    (ha : w.cell? ⟨a, 0, none⟩ = some (.pointer (some ⟨p, 0, none⟩))) (hb : w.cell? ⟨b, 0, none⟩ = some (.string s)) (hc : w.cell? ⟨c, 0, none⟩ = some (.slice (some ⟨pb, po, none⟩) news.length pc))
    (na : ¬ S a) (nb : ¬ S b) (nc : ¬ S c) (hnews : SlN w .u8 (.slice (some ⟨pb, po, none⟩) news.length pc) news) (h0 : 0 < news.length) (hby : Byts news) (hlen : ((flook d.fs s).getD []).length + news.length ≤ 4194304) :
    Calls Tryz.prog 53 #[.pointer (some ⟨a, 0, none⟩), .pointer (some ⟨b, 0, none⟩), .pointer (some ⟨c, 0, none⟩)] w fun en w' => en = .returned (.tuple #[]) ∧
      ∃ S', IsDisk w' p { d with fs := fput d.fs s ((flook d.fs s).getD [] ++ news) } S' ∧ Fr S w w' ∧ ∀ k, S' k → S k ∨ w.heap.size ≤ k := by
  obtain ⟨mb, D, h1, h2, h3, h4, h5, h6, h7⟩ := id h
  have hp := h1.cell 0 rfl
  have hsm := look_some h2 keyed_str
  have key1 : ∃ v olds, (look D (key s)).getD (.slice none 0 0) = v ∧ (flook d.fs s).getD [] = olds ∧ Byts olds ∧ w.ownsRow 0 5 1 v olds.length (numsV .u8 olds) ∧ (v.ownBlock = none ∨ look D (key s) = some v) := by
    cases hl : flook d.fs s with
    | none => exact ⟨_, [], by rw [h3.no s hl]; rfl, rfl, Byts.nil, World.ownsRow_nil _ _ _ _, .inl rfl⟩
    | some bs =>
      obtain ⟨hb', hl', v, hv, hown⟩ := h3.yes s bs hl
      exact ⟨v, bs, by rw [hv]; rfl, rfl, hb', hown, .inr hv⟩
  obtain ⟨v, olds, hv, ho, hob, hown, hvl⟩ := key1
  rw [ho] at hlen ⊢
  have inS : ∀ k, v.ownBlock = some k → S k := by
    intro k hk
    rcases hvl with e | e
    · rw [e] at hk; cases hk
    · exact h6 s v k e hk
  have dp := row_ne_st hown h1 (by decide)
  have dm := row_ne_map hown h2
  refine (append2_any w p mb a b c s _ D v olds pb po pc news hs (by simp only [maxLen]; omega) ha hb hc hp h2 hv hown hnews h0 hlen
    (fun e => na (inS _ e)) (fun e => nb (inS _ e)) (fun e => nc (inS _ e)) dp dm).mono ?_
  rintro e w1 ⟨v', rfl, hm1, hown1, hf1, hv1⟩
  have hpm : p ≠ mb := ownsMap_ne h2 h1
  have hsz := hf1.size
  have apart : ∀ s' v2 g, s' ≠ s → look D (key s') = some v2 → v2.ownBlock = some g → ¬ (g = mb ∨ v.ownBlock = some g) ∧ v'.ownBlock ≠ some g := by
    intro s' v2 g hne hv2 hg
    have a1 : g ≠ mb := fun e => noBlockMap h3 hv2 h2 (e ▸ hg)
    have a2 : v.ownBlock ≠ some g := by
      intro e
      rcases hvl with e' | e'
      · rw [e'] at e; cases e
      · exact hne (h3.apart s' s v2 v g hv2 e' hg e)
    refine ⟨fun h => h.elim a1 a2, fun e => ?_⟩
    rcases hv1 with e' | ⟨g', e', hg'⟩
    · exact a2 (e' ▸ e)
    · rw [e'] at e
      cases e
      have := h7 _ (h6 s' v2 _ hv2 hg)
      omega
  refine ⟨rfl, fun k => S k ∨ v'.ownBlock = some k, ⟨mb, D.put (key s) (.held v'), ?_, ?_, ?_, .inl h4, .inl h5, ?_, ?_⟩, hf1.mono ?_, ?_⟩
  · exact h1.fr hf1 fun e => e.elim hpm dp
  · have := h3.put (h2.tidy keyed_str) hsm (hob.append hby) (by simpa using hlen) hown1 hf1 apart
    rw [← this.size]
    exact ownsMap_tight hm1
  · exact h3.put (h2.tidy keyed_str) hsm (hob.append hby) (by simpa using hlen) hown1 hf1 apart
  · intro s' v2 g hv2 hg
    by_cases e : s' = s
    · subst e
      rw [look_put_same (h2.tidy keyed_str).isMap (keyLit _)] at hv2
      cases hv2
      exact .inr hg
    · rw [look_put_other (fun h => e (key_inj h))] at hv2
      exact .inl (h6 s' v2 g hv2 hg)
  · rintro k (hk | hk)
    · have := h7 k hk; omega
    · rcases hown1.2 with ⟨rfl, _⟩ | ⟨g', cap, cur, rfl, _, hh, _⟩
      · cases hk
      · simp only [Value.ownBlock, Option.map_some, Option.some.injEq] at hk
        subst hk
        exact (Array.getElem?_eq_some_iff.1 hh).1
  · rintro k _ (rfl | hk)
    · exact h5
    · exact inS k hk
  · rintro k (hk | hk)
    · exact .inl hk
    · rcases hv1 with e' | ⟨g', e', hg'⟩
      · exact .inl (inS k (e' ▸ hk))
      · rw [e'] at hk; cases hk; exact .inr hg'
/-- Append's other closure: a file of no bytes. -/
theorem append1_disk (w : World) (p : Nat) (d : Dk) (S : Nat → Prop) (a b : Nat) (s : ByteArray) (h : IsDisk w p d S) (hs : s.size ≤ maxLen) (hn : d.fs.length ≤ 256)
    (ha : w.cell? ⟨a, 0, none⟩ = some (.pointer (some ⟨p, 0, none⟩))) (hb : w.cell? ⟨b, 0, none⟩ = some (.string s)) :
    Calls Tryz.prog 52 #[.pointer (some ⟨a, 0, none⟩), .pointer (some ⟨b, 0, none⟩)] w fun en w' => en = .returned (.tuple #[]) ∧ IsDisk w' p { d with fs := fput d.fs s [] } S ∧ Fr S w w' := by
  obtain ⟨mb, D, h1, h2, h3, h4, h5, h6, h7⟩ := id h
  have hp := h1.cell 0 rfl
  have hsm := look_some h2 keyed_str
  refine (append1_any w p mb a b s _ D hs (by simp only [maxLen]; omega) ha hb hp h2).mono ?_
  rintro e w1 ⟨rfl, hm1, hg1⟩
  have hf1 := Fr.of_grown hg1
  have hpm : p ≠ mb := ownsMap_ne h2 h1
  have hsz := hf1.size
  have apart : ∀ s' v2 g, s' ≠ s → look D (key s') = some v2 → v2.ownBlock = some g → ¬ (some g = some mb) ∧ (Value.slice none 0 0).ownBlock ≠ some g := by
    intro s' v2 g hne hv2 hg
    exact ⟨fun e => noBlockMap h3 hv2 h2 (e ▸ hg), fun e => by cases e⟩
  have hnew := h3.put (h2.tidy keyed_str) hsm Byts.nil (by simp) (World.ownsRow_nil w1 0 5 1) hf1 apart
  refine ⟨rfl, ⟨mb, D.put (key s) (.held (.slice none 0 0)), ?_, ?_, hnew, h4, h5, ?_, ?_⟩, hf1.mono ?_⟩
  · exact h1.fr hf1 fun e => hpm (Option.some.inj e)
  · rw [← hnew.size]
    exact ownsMap_tight hm1
  · intro s' v2 g hv2 hg
    by_cases e : s' = s
    · subst e
      rw [look_put_same (h2.tidy keyed_str).isMap (keyLit _)] at hv2
      cases hv2
      cases hg
    · rw [look_put_other (fun h => e (key_inj h))] at hv2
      exact h6 s' v2 g hv2 hg
  · intro k hk
    have := h7 k hk; omega
  · rintro k _ e
    cases e
    exact h5
/-- Remove's closure. -/
theorem remove1_disk (w : World) (p : Nat) (d : Dk) (S : Nat → Prop) (a b : Nat) (s : ByteArray) (h : IsDisk w p d S) (hs : s.size ≤ maxLen)
    (ha : w.cell? ⟨a, 0, none⟩ = some (.pointer (some ⟨p, 0, none⟩))) (hb : w.cell? ⟨b, 0, none⟩ = some (.string s)) :
    Calls Tryz.prog 128 #[.pointer (some ⟨a, 0, none⟩), .pointer (some ⟨b, 0, none⟩)] w fun en w' => en = .returned (.tuple #[]) ∧ IsDisk w' p { d with fs := fdel d.fs s } S ∧ Fr S w w' := by
  obtain ⟨mb, D, h1, h2, h3, h4, h5, h6, h7⟩ := id h
  have hp := h1.cell 0 rfl
  have hsm := look_some h2 keyed_str
  refine (remove1_any w p mb a b s _ D hs ha hb hp h2).mono ?_
  rintro e w1 ⟨rfl, hm1, hg1⟩
  have hf1 := Fr.of_grown hg1
  have hpm : p ≠ mb := ownsMap_ne h2 h1
  have hsz := hf1.size
  have apart : ∀ s' v2 g, s' ≠ s → look D (key s') = some v2 → v2.ownBlock = some g → ¬ (some g = some mb) := by
    intro s' v2 g hne hv2 hg
    exact fun e => noBlockMap h3 hv2 h2 (e ▸ hg)
  have hnew := h3.del (h2.tidy keyed_str) hsm hf1 apart
  refine ⟨rfl, ⟨mb, D.del (key s), ?_, ?_, hnew, h4, h5, ?_, ?_⟩, hf1.mono ?_⟩
  · exact h1.fr hf1 fun e => hpm (Option.some.inj e)
  · rw [← hnew.size]
    exact ownsMap_tight hm1
  · intro s' v2 g hv2 hg
    by_cases e : s' = s
    · subst e
      rw [look_del_same] at hv2
      cases hv2
    · rw [look_del_other (fun h => e (key_inj h))] at hv2
      exact h6 s' v2 g hv2 hg
  · intro k hk
    have := h7 k hk; omega
  · rintro k _ e
    cases e
    exact h5
end Go.Proofs.YtbbplhpkhholeaaGreatDoor
