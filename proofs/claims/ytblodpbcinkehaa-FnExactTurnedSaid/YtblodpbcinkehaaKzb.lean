/-
  Steps of a run on mutable values: places in them, stores, calls by reference, fresh results. No conditions.
-/
import Derived.Test.YtblodpbcinkehaaKza
set_option linter.unusedVariables false
set_option linter.unusedSimpArgs false
namespace Go.Proofs.Ytblodpbcinkehaa.K

/-! ### Places -/
/-- A part of a value, and how another comes into its place. -/
structure Foc (α β : Type) [GoT α] [GoM α] [GoT β] [GoM β] (get : α → β) (set : α → β → α) (off : Nat) : Prop where
  part : ∀ {G x cs F}, GoM.tr G x cs F → ∃ c1 c2 c3 F1 F2 F3, cs = c1 ++ (c2 ++ c3) ∧ F = F1 ++ (F2 ++ F3) ∧ c1.length = off ∧ GoM.tr G (get x) c2 F2 ∧
    ∀ G' y c F', (∀ b ∈ F1 ++ F3, G'[b]? = G[b]?) → GoM.tr G' y c F' → GoM.tr G' (set x y) (c1 ++ (c ++ c3)) (F1 ++ (F' ++ F3))
section
variable {α β γ : Type} [GoT α] [GoM α] [GoT β] [GoM β] [GoT γ] [GoM γ]
theorem Foc.all : Foc α α id (fun _ y => y) 0 := ⟨fun {G x cs F} h => ⟨[], cs, [], [], F, [], by simp, by simp, rfl, h, fun G' y c F' _ hy => by simpa using hy⟩⟩
theorem Foc.fst : Foc (α × β) α Prod.fst (fun x y => (y, x.2)) 0 := ⟨fun {G x cs F} h => by
  obtain ⟨c1, c2, F1, F2, rfl, rfl, h1, h2⟩ := h
  exact ⟨[], c1, c2, [], F1, F2, rfl, rfl, rfl, h1, fun G' y c F' hG hy => ⟨c, c2, F', F2, rfl, rfl, hy, GoM.frame h2 hG⟩⟩⟩
theorem Foc.snd : Foc (α × β) β Prod.snd (fun x y => (x.1, y)) (GoT.sz α) := ⟨fun {G x cs F} h => by
  obtain ⟨c1, c2, F1, F2, rfl, rfl, h1, h2⟩ := h
  exact ⟨c1, c2, [], F1, F2, [], by simp, by simp, GoM.len h1, h2, fun G' y c F' hG hy => ⟨c1, c, F1, F', by simp, by simp, GoM.frame h1 fun b hb => hG b (by simpa using hb), hy⟩⟩⟩
theorem Foc.comp {g1 : α → β} {s1 : α → β → α} {o1 : Nat} {g2 : β → γ} {s2 : β → γ → β} {o2 : Nat} (h1 : Foc α β g1 s1 o1) (h2 : Foc β γ g2 s2 o2) : Foc α γ (fun x => g2 (g1 x)) (fun x y => s1 x (s2 (g1 x) y)) (o1 + o2) := ⟨fun {G x cs F} h => by
  obtain ⟨c1, c2, c3, F1, F2, F3, rfl, rfl, l1, t1, b1⟩ := h1.part h
  obtain ⟨d1, d2, d3, E1, E2, E3, rfl, rfl, l2, t2, b2⟩ := h2.part t1
  refine ⟨c1 ++ d1, d2, d3 ++ c3, F1 ++ E1, E2, E3 ++ F3, by simp, by simp, by rw [List.length_append, l1, l2], t2, fun G' y c F' hG hy => ?_⟩
  have := b1 G' (s2 (g1 x) y) (d1 ++ (c ++ d3)) (E1 ++ (F' ++ E3)) (fun b hb => hG b (by rcases List.mem_append.1 hb with h | h <;> simp [h])) (b2 G' y c F' (fun b hb => hG b (by rcases List.mem_append.1 hb with h | h <;> simp [h])) hy)
  simpa using this⟩
end
section
variable {α β γ : Type} [GoT α] [GoT β] [GoM β] [GoT γ] [GoM γ]
theorem Foc.via {f : α → β} {hz : GoT.sz α = GoT.sz β} {he : ∀ l x, GoT.encL l x = GoT.encL l (f x)} {g : β → γ} {s : β → γ → β} {o : Nat} {set : α → γ → α} (h : Foc β γ g s o) (hs : ∀ x y, f (set x y) = s (f x) y) :
    @Foc α γ _ (GoM.via f hz he) _ _ (fun x => g (f x)) set o :=
  @Foc.mk α γ _ (GoM.via f hz he) _ _ _ _ _ fun {G x cs F} h1 => by
    obtain ⟨c1, c2, c3, F1, F2, F3, e1, e2, l1, t1, b1⟩ := h.part (x := f x) h1
    refine ⟨c1, c2, c3, F1, F2, F3, e1, e2, l1, t1, fun G' y c F' hG hy => ?_⟩
    show GoM.tr G' (f (set x y)) _ _
    rw [hs]
    exact b1 G' y c F' hG hy
end

/-! ### A mutable value within a footprint -/
def TrIn {α : Type} [GoT α] [GoM α] (G : Heap) (x : α) (cs : List V) (F : List Nat) : Prop := ∃ F', F'.Nodup ∧ (∀ b ∈ F', b ∈ F) ∧ GoM.tr G x cs F'
abbrev Tree {α : Type} [GoT α] [GoM α] (S F : List Nat) (x : α) (cs : List V) : Res := .tree S F fun G => TrIn G x cs F
section
variable {α β γ : Type} [GoT α] [GoM α] [GoT β] [GoM β] [GoT γ] [GoM γ] {G G' H : Heap} {rs : List Res} {S F : List Nat} {x : α} {cs : List V} {v : V} {xs : List α}
theorem TrIn.mono (h : TrIn G x cs F) (hg : ∀ b ∈ F, G'[b]? = G[b]?) : TrIn G' x cs F := by
  obtain ⟨F', h1, h2, h3⟩ := h
  exact ⟨F', h1, h2, GoM.frame h3 fun b hb => hg b (h2 b hb)⟩
theorem TrIn.wide {F2 : List Nat} (h : TrIn G x cs F) (hf : ∀ b ∈ F, b ∈ F2) : TrIn G x cs F2 := by
  obtain ⟨F', h1, h2, h3⟩ := h
  exact ⟨F', h1, fun b hb => hf b (h2 b hb), h3⟩
theorem TrIn.cells (h : TrIn G x cs F) : cs.length = GoT.sz α ∧ cs.all V.isCell = true := by
  obtain ⟨F', h1, h2, h3⟩ := h
  exact ⟨GoM.len h3, GoM.cell h3⟩
theorem tree_ok (h : TrIn G x cs F) (hS : ∀ b ∈ F, b < G.length ∧ (b < H.length → b ∈ S)) : (Tree S F x cs).ok H G := ⟨hS, fun G' hg => h.mono hg⟩
theorem Owns.tree {j : Nat} (hO : Owns H G rs) {p : Heap → Prop} (hj : rs[j]? = some (.tree S F p)) : p G ∧ ∀ b ∈ F, b < G.length ∧ (b < H.length → b ∈ S) := by
  have h := hO.ok _ (List.mem_of_getElem? hj)
  exact ⟨h.2 G fun _ _ => rfl, h.1⟩
/-- What lies within a footprint has changed. -/
theorem Owns.chg {j : Nat} (hO : Owns H G rs) {p p' : Heap → Prop} (hj : rs[j]? = some (.tree S F p)) (hl : G'.length = G.length) (hs : ∀ b, b ∉ F → G'[b]? = G[b]?) (hp : ∀ G2, (∀ b ∈ F, G2[b]? = G'[b]?) → p' G2) :
    Owns (G'.take H.length) G' (rs.set j (.tree S F p')) := by
  have ht : (G'.take H.length).length = H.length := by rw [List.length_take, hl]; have := hO.len; omega
  obtain ⟨hj1, hj2⟩ := List.getElem?_eq_some_iff.1 hj
  refine ⟨fun b hb => ?_, by rw [ht, hl]; exact hO.len, fun r hr => ?_, pairwise_set hO.apart hj fun y hy => hy⟩
  · rw [List.getElem?_take, if_pos (by omega)]
  · obtain ⟨i, hi, e⟩ := List.mem_iff_getElem.1 hr
    rw [List.length_set] at hi
    rw [List.getElem_set] at e
    split at e
    · subst e
      refine ⟨fun b hb => ?_, hp⟩
      rw [hl, ht]
      exact (hO.tree hj).2 b hb
    · rename_i hij
      subst e
      refine Res.ok_len ht (Res.ok_mono (hO.ok _ (List.getElem_mem hi)) fun y hy => hs y fun hyF => ?_)
      have hp := List.pairwise_iff_getElem.1 hO.apart
      rcases Nat.lt_or_ge i j with h | h
      · exact hp i j hi hj1 h y hy (by rw [hj2]; exact hyF)
      · exact hp j i hj1 hi (by omega) y (by rw [hj2]; exact hyF) hy
theorem take_own {j : Nat} (hO : Owns H G rs) {p : Heap → Prop} (hj : rs[j]? = some (.tree [] F p)) (hs : ∀ b, b ∉ F → G'[b]? = G[b]?) : G'.take H.length = H := by
  apply List.ext_getElem?
  intro b
  rw [List.getElem?_take]
  split
  · rename_i hb
    rw [hs b fun h => by cases ((hO.tree hj).2 b h).2 hb]
    exact hO.pre b hb
  · rename_i hb; rw [List.getElem?_eq_none (by omega)]
theorem Owns.chgO {j : Nat} (hO : Owns H G rs) {p p' : Heap → Prop} (hj : rs[j]? = some (.tree [] F p)) (hl : G'.length = G.length) (hs : ∀ b, b ∉ F → G'[b]? = G[b]?) (hp : ∀ G2, (∀ b ∈ F, G2[b]? = G'[b]?) → p' G2) :
    Owns H G' (rs.set j (.tree [] F p')) := by
  have h := hO.chg hj hl hs hp
  rwa [take_own hO hj hs] at h
theorem Sees.chg {H0 : Heap} {j : Nat} (hFr : Sees H0 H S) (hO : Owns H G rs) {p : Heap → Prop} (hj : rs[j]? = some (.tree S F p)) (hl : G'.length = G.length) (hs : ∀ b, b ∉ F → G'[b]? = G[b]?) : Sees H0 (G'.take H.length) S := by
  have ht : (G'.take H.length).length = H.length := by rw [List.length_take, hl]; have := hO.len; omega
  refine ⟨by rw [ht]; exact hFr.1, fun b hb => ?_⟩
  rw [List.getElem?_take]
  split
  · rename_i hlt
    rw [hs b fun h => hb (((hO.tree hj).2 b h).2 hlt), hO.pre b hlt]
    exact hFr.2 b hb
  · rename_i hge
    rw [← hFr.2 b hb, List.getElem?_eq_none (by omega)]
theorem tr_open {i : Int} (h : TrIn G xs [v] F) (hx : getI xs i = some x) : ∃ b cells F', v = .sl b 0 xs.length ∧ b ∈ F ∧ G[b]? = some (.cells (GoT.sz α) cells) ∧ trL GoM.tr G xs cells F' ∧ (b :: F').Nodup ∧ ∀ c ∈ F', c ∈ F := by
  obtain ⟨F', h1, h2, h3⟩ := h
  rcases h3 with ⟨rfl, _, _⟩ | ⟨b, cells, F2, e, hb, ht, rfl⟩
  · have := getI_lt hx; simp at this; omega
  · simp only [List.cons.injEq, and_true] at e
    exact ⟨b, cells, F2, e, h2 b (List.mem_cons_self ..), hb, ht, h1, fun c hc => h2 c (List.mem_cons_of_mem _ hc)⟩
theorem trL_foc {get : α → β} {set : α → β → α} {off : Nat} (L : Foc α β get set off) {i : Int} {F} (h : trL GoM.tr G xs cs F) (hx : getI xs i = some x) : ∃ c1 c2 c3 F1 F2 F3, cs = c1 ++ (c2 ++ c3) ∧ F = F1 ++ (F2 ++ F3) ∧ c1.length = i.toNat * GoT.sz α + off ∧ GoM.tr G (get x) c2 F2 ∧
    ∀ G' y c F', (∀ b ∈ F1 ++ F3, G'[b]? = G[b]?) → GoM.tr G' y c F' → trL GoM.tr G' (xs.set i.toNat (set x y)) (c1 ++ (c ++ c3)) (F1 ++ (F' ++ F3)) := by
  obtain ⟨c1, c2, c3, F1, F2, F3, rfl, rfl, l1, t1, b1⟩ := trL_at h (getI_get hx)
  obtain ⟨d1, d2, d3, E1, E2, E3, rfl, rfl, l2, t2, b2⟩ := L.part t1
  refine ⟨c1 ++ d1, d2, d3 ++ c3, F1 ++ E1, E2, E3 ++ F3, by simp, by simp, by rw [List.length_append, l1, l2], t2, fun G' y c F' hG hy => ?_⟩
  have := b1 G' (set x y) (d1 ++ (c ++ d3)) (E1 ++ (F' ++ E3)) (fun b hb => hG b (by rcases List.mem_append.1 hb with h | h <;> simp [h])) (b2 G' y c F' (fun b hb => hG b (by rcases List.mem_append.1 hb with h | h <;> simp [h])) hy)
  simpa using this
theorem splice_mid {c1 c2 c3 c : List V} (hl : c.length = c2.length) : splice (c1 ++ (c2 ++ c3)) c1.length c = c1 ++ (c ++ c3) := by
  unfold splice
  rw [List.take_left' rfl, hl, List.drop_append, List.drop_of_length_le (by omega), List.nil_append, Nat.add_sub_cancel_left, List.drop_left' rfl, List.append_assoc]
/-- Another value comes into a place of a mutable list. -/
theorem tree_put {get : α → β} {set : α → β → α} {off b : Nat} (L : Foc α β get set off) {i : Int} {y : β} {w : List V} {F2 : List Nat} (h : TrIn G xs [v] F) (hx : getI xs i = some x) (hv : v = .sl b 0 xs.length) (hy : TrIn G y w F2) (hd : ∀ c ∈ F2, c ∉ F) :
    ∃ cells, b ∈ F ∧ G[b]? = some (.cells (GoT.sz α) cells) ∧ i.toNat * GoT.sz α + off + w.length ≤ cells.length ∧ w.all V.isCell = true ∧
      TrIn (G.set b (.cells (GoT.sz α) (splice cells (i.toNat * GoT.sz α + off) w))) (xs.set i.toNat (set x y)) [v] (F ++ F2) := by
  obtain ⟨b', cells, F', rfl, hb, hg, ht, hn, hF⟩ := tr_open h hx
  cases hv
  obtain ⟨E, hE, hE2, hyt⟩ := hy
  obtain ⟨c1, c2, c3, F1, Fm, F3, rfl, rfl, l1, t1, b1⟩ := trL_foc L ht hx
  have hl : w.length = c2.length := by rw [GoM.len hyt, GoM.len t1]
  have hblt := (List.getElem?_eq_some_iff.1 hg).1
  rw [List.nodup_cons] at hn
  obtain ⟨n1, n2⟩ := hn
  have nn := List.nodup_append.1 n2
  have nn2 := List.nodup_append.1 nn.2.1
  refine ⟨_, hb, hg, by simp only [List.length_append]; omega, GoM.cell hyt, b :: (F1 ++ (E ++ F3)), ?_, fun c hc => ?_, .inr ⟨b, _, _, by rw [List.length_set], by rw [set_get, if_pos ⟨rfl, hblt⟩], ?_, rfl⟩⟩
  · rw [List.nodup_cons]
    refine ⟨fun hm => ?_, ?_⟩
    · simp only [List.mem_append] at hm n1
      rcases hm with hm | hm | hm
      · exact n1 (.inl hm)
      · exact hd b (hE2 b hm) hb
      · exact n1 (.inr (.inr hm))
    · rw [List.nodup_append, List.nodup_append]
      refine ⟨nn.1, ⟨hE, nn2.2.1, fun p hp q hq e => ?_⟩, fun p hp q hq e => ?_⟩
      · subst e; exact hd p (hE2 p hp) (hF p (by simp [hq]))
      · subst e
        rcases List.mem_append.1 hq with hq | hq
        · exact hd p (hE2 p hq) (hF p (by simp [hp]))
        · exact nn.2.2 p hp p (by simp [hq]) rfl
  · rcases List.mem_cons.1 hc with rfl | hc
    · simp [hb]
    · simp only [List.mem_append] at hc ⊢
      rcases hc with hc | hc | hc
      · exact .inl (hF c (by simp [hc]))
      · exact .inr (hE2 c hc)
      · exact .inl (hF c (by simp [hc]))
  · rw [← l1, splice_mid hl]
    refine b1 _ y w E (fun c hc => ?_) (GoM.frame hyt fun c hc => ?_)
    · rw [set_get, if_neg]
      rintro ⟨rfl, _⟩
      exact n1 (by rcases List.mem_append.1 hc with h | h <;> simp [h])
    · rw [set_get, if_neg]
      rintro ⟨rfl, _⟩
      exact hd b (hE2 b hc) hb
/-- A mutable part of a mutable value. -/
structure Sub (G : Heap) (R : Heap → β → Prop) (F : List Nat) (cs : List V) (Fs : List Nat) (y : β) : Prop where
  tr : TrIn G y cs Fs
  sub : ∀ b ∈ Fs, b ∈ F
  fr : ∀ G G' y, R G y → (∀ b ∈ F, G'[b]? = G[b]?) → R G' y
  back : ∀ G' y', (∀ b, b ∉ Fs → G'[b]? = G[b]?) → TrIn G' y' cs Fs → R G' y'
theorem sub_struct {get : α → β} {set : α → β → α} {off : Nat} (L : Foc α β get set off) (h : TrIn G x cs F) : ∃ c1 c2 c3 Fs, cs = c1 ++ (c2 ++ c3) ∧ c1.length = off ∧ c2.length = GoT.sz β ∧ Sub G (fun G' y => TrIn G' (set x y) cs F) F c2 Fs (get x) := by
  obtain ⟨F', n, hF, ht⟩ := h
  obtain ⟨c1, c2, c3, F1, F2, F3, rfl, rfl, l1, t1, b1⟩ := L.part ht
  have nn := List.nodup_append.1 n
  have nn2 := List.nodup_append.1 nn.2.1
  refine ⟨c1, c2, c3, F2, rfl, l1, GoM.len t1, ⟨F2, nn2.1, fun _ h => h, t1⟩, fun b hb => hF b (by simp [hb]), fun G G' y hR hg => hR.mono hg, fun G' y' hs hy => ?_⟩
  obtain ⟨E, e1, e2, e3⟩ := hy
  refine ⟨F1 ++ (E ++ F3), ?_, fun b hb => ?_, b1 G' y' c2 E (fun b hb => hs b fun h => ?_) e3⟩
  · rw [List.nodup_append, List.nodup_append]
    refine ⟨nn.1, ⟨e1, nn2.2.1, fun p hp q hq => nn2.2.2 p (e2 p hp) q hq⟩, fun p hp q hq => nn.2.2 p hp q ?_⟩
    rcases List.mem_append.1 hq with h | h
    · simp [e2 q h]
    · simp [h]
  · simp only [List.mem_append] at hb
    rcases hb with h | h | h
    · exact hF b (by simp [h])
    · exact hF b (by simp [e2 b h])
    · exact hF b (by simp [h])
  · rcases List.mem_append.1 hb with h' | h'
    · exact nn.2.2 b h' b (by simp [h]) rfl
    · exact nn2.2.2 b h b h' rfl
theorem sub_elem {get : α → β} {set : α → β → α} {off b : Nat} (L : Foc α β get set off) {i : Int} (h : TrIn G xs [v] F) (hx : getI xs i = some x) (hv : v = .sl b 0 xs.length) :
    ∃ cells c1 c2 c3 Fs, G[b]? = some (.cells (GoT.sz α) cells) ∧ cells = c1 ++ (c2 ++ c3) ∧ c1.length = i.toNat * GoT.sz α + off ∧ c2.length = GoT.sz β ∧ Sub G (fun G' y => TrIn G' (xs.set i.toNat (set x y)) [v] F) F c2 Fs (get x) := by
  obtain ⟨b', cells, F', rfl, hb, hg, ht, hn, hF⟩ := tr_open h hx
  cases hv
  obtain ⟨c1, c2, c3, F1, F2, F3, rfl, rfl, l1, t1, b1⟩ := trL_foc L ht hx
  rw [List.nodup_cons] at hn
  obtain ⟨n1, n⟩ := hn
  have nn := List.nodup_append.1 n
  have nn2 := List.nodup_append.1 nn.2.1
  refine ⟨_, c1, c2, c3, F2, hg, rfl, l1, GoM.len t1, ⟨F2, nn2.1, fun _ h => h, t1⟩, fun c hc => hF c (by simp [hc]), fun G G' y hR hg => hR.mono hg, fun G' y' hs hy => ?_⟩
  obtain ⟨E, e1, e2, e3⟩ := hy
  refine ⟨b :: (F1 ++ (E ++ F3)), ?_, fun c hc => ?_, .inr ⟨b, _, _, by rw [List.length_set], ?_, b1 G' y' c2 E (fun c hc => hs c fun h => ?_) e3, rfl⟩⟩
  · rw [List.nodup_cons, List.nodup_append, List.nodup_append]
    refine ⟨fun hm => n1 ?_, nn.1, ⟨e1, nn2.2.1, fun p hp q hq => nn2.2.2 p (e2 p hp) q hq⟩, fun p hp q hq => nn.2.2 p hp q ?_⟩
    · simp only [List.mem_append] at hm ⊢
      rcases hm with h | h | h
      · exact .inl h
      · exact .inr (.inl (e2 b h))
      · exact .inr (.inr h)
    · rcases List.mem_append.1 hq with h | h
      · simp [e2 q h]
      · simp [h]
  · rcases List.mem_cons.1 hc with rfl | hc
    · exact hb
    · simp only [List.mem_append] at hc
      rcases hc with h | h | h
      · exact hF c (by simp [h])
      · exact hF c (by simp [e2 c h])
      · exact hF c (by simp [h])
  · rw [hs b fun h => n1 (by simp [h])]; exact hg
  · rcases List.mem_append.1 hc with h' | h'
    · exact nn.2.2 c h' c (by simp [h]) rfl
    · exact nn2.2.2 c h c h' rfl
theorem len_tr (h : TrIn G xs [v] F) : lenK v = some xs.length := by
  obtain ⟨F', _, _, ⟨rfl, e, _⟩ | ⟨b, cells, F2, e, _⟩⟩ := h
  · cases e; rfl
  · cases e; rfl
/-- A mutable list is lent; a struct that bears such. -/
theorem lendL_one {f : V → Option (V × List Nat)} {v v' : V} {M : List Nat} (h : lendV.lendL f [v] = some ([v'], M)) : f v = some (v', M) := by
  simp only [lendV.lendL, Option.bind_eq_some_iff, Option.map_eq_some_iff, Prod.exists, Prod.mk.injEq, Option.some.injEq] at h
  obtain ⟨a, M1, h1, b, M2, ⟨rfl, rfl⟩, h3, rfl⟩ := h
  simp only [List.cons.injEq, and_true] at h3
  subst h3
  rw [h1, List.append_nil]
theorem ld_tr {j : Nat} (hO : Owns H G rs) (hj : rs[j]? = some (Tree S F xs [v])) (lv n : Nat) (hn : Nat.ble (GoM.dep (List α)) n = true := by rfl) : ∃ M, lendV lv G n v = some (.lit lv xs.length (flatL lv xs), M) := by
  obtain ⟨F', _, _, h⟩ := (hO.tree hj).1
  obtain ⟨M, h1, _⟩ := lendL_up (lv := lv) h (Nat.le_of_ble_eq_true hn) 0
  rw [Nat.zero_add] at h1
  exact ⟨M, lendL_one h1⟩
theorem ld_trS {j : Nat} (hO : Owns H G rs) (hj : rs[j]? = some (Tree S F x cs)) (lv n : Nat) (hn : Nat.ble (GoM.dep α) n = true := by rfl) : ∃ M, lendV lv G (n + 1) (.agg cs) = some (.agg (GoT.encL lv x), M) := by
  obtain ⟨F', _, _, h⟩ := (hO.tree hj).1
  obtain ⟨M, h1, _⟩ := lendL_up (lv := lv) h (Nat.le_of_ble_eq_true hn) 0
  rw [Nat.zero_add] at h1
  exact ⟨M, by rw [lendV, h1]; rfl⟩
end
end Go.Proofs.Ytblodpbcinkehaa.K
