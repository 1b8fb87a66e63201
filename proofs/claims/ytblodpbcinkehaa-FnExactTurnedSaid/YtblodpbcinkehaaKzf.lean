/-
  Lists that are appended to and whose elements bear lists of their own: how they are built and leave afresh. No conditions.
-/
import Derived.Test.YtblodpbcinkehaaKze
set_option linter.unusedVariables false
set_option linter.unusedSimpArgs false
namespace Go.Proofs.Ytblodpbcinkehaa.K

/-- Cells that leave as a value, whatever else the heap holds. -/
def Prom (lo d n : Nat) (tr : Heap → List V → List Nat → Prop) (G : Heap) (cs : List V) (F : List Nat) : Prop :=
  ∃ F', F'.Nodup ∧ (∀ b ∈ F', b ∈ F) ∧ ∀ X : Heap × List Blk, (∀ b ∈ F', X.1[b]? = G[b]?) → ∀ k, Leaves tr lo (resV true lo d (k + n)) cs F' X
section
variable {α β : Type} [GoT α] [GoM α] [GoT β] [GoM β] {lo d n : Nat} {tr : Heap → List V → List Nat → Prop} {G G' H : Heap} {cs : List V} {F F2 : List Nat} {xs : List α} {x : α} {v : V} {rs : List Res}
theorem Prom.mono (h : Prom lo d n tr G cs F) (hg : ∀ b ∈ F, G'[b]? = G[b]?) : Prom lo d n tr G' cs F := by
  obtain ⟨F', h1, h2, h3⟩ := h
  exact ⟨F', h1, h2, fun X hX k => h3 X (fun b hb => by rw [hX b hb, hg b (h2 b hb)]) k⟩
theorem Prom.wide (h : Prom lo d n tr G cs F) (hf : ∀ b ∈ F, b ∈ F2) : Prom lo d n tr G cs F2 := by
  obtain ⟨F', h1, h2, h3⟩ := h
  exact ⟨F', h1, fun b hb => hf b (h2 b hb), h3⟩
theorem Leaves.weak {t1 t2 : Heap → List V → List Nat → Prop} {f : Heap × List Blk → V → Option (V × Heap × List Blk)} {X : Heap × List Blk} (h : Leaves t1 lo f cs F X) (ht : ∀ G c F, t1 G c F → t2 G c F) : Leaves t2 lo f cs F X := by
  obtain ⟨c, X1, L, F', e, s1, n1, b1, r1⟩ := h
  exact ⟨c, X1, L, F', e, s1, n1, b1, fun A hA => ht _ _ _ (r1 A hA)⟩
theorem Prom.nil : Prom lo d n (fun G => trL GoM.tr G ([] : List α)) G [] [] :=
  ⟨[], .nil, fun _ h => h, fun X _ k => ⟨[], X.1, [], [], by rw [List.append_nil]; rfl, fun _ _ => rfl, .nil, fun b hb => (by cases hb), fun _ _ => ⟨rfl, rfl⟩⟩⟩
theorem trL_snoc : ∀ {xs : List α} {c1 c2 F1 F2}, trL GoM.tr G xs c1 F1 → GoM.tr G x c2 F2 → trL GoM.tr G (xs ++ [x]) (c1 ++ c2) (F1 ++ F2)
  | [], c1, c2, F1, F2, h1, h2 => by
    obtain ⟨rfl, rfl⟩ := h1
    exact ⟨c2, [], F2, [], by simp, by simp, h2, rfl, rfl⟩
  | y :: xs, c1, c2, F1, F2, h1, h2 => by
    obtain ⟨a, b, A, B, rfl, rfl, q1, q2⟩ := h1
    exact ⟨a, b ++ c2, A, B ++ F2, by simp, by simp, q1, trL_snoc q2 h2⟩
theorem Prom.snoc {c1 c2 : List V} {F1 F2 : List Nat} (h1 : Prom lo d n (fun G => trL GoM.tr G xs) G c1 F1) (h2 : Prom lo d n (fun G => GoM.tr G x) G c2 F2) (hd : ∀ b ∈ F2, b ∉ F1) : Prom lo d n (fun G => trL GoM.tr G (xs ++ [x])) G (c1 ++ c2) (F1 ++ F2) := by
  obtain ⟨A, a1, a2, a3⟩ := h1
  obtain ⟨B, b1, b2, b3⟩ := h2
  refine ⟨A ++ B, ?_, fun b hb => ?_, fun X hX k => ?_⟩
  · rw [List.nodup_append]
    exact ⟨a1, b1, fun p hp q hq e => by subst e; exact hd p (b2 p hq) (a2 p hp)⟩
  · rcases List.mem_append.1 hb with h | h
    · exact List.mem_append_left _ (a2 b h)
    · exact List.mem_append_right _ (b2 b h)
  · refine (Leaves.pair (t1 := fun G => trL GoM.tr G xs) (fun h hg => trL_frame h hg) (a3 X (fun b hb => hX b (List.mem_append_left _ hb)) k) fun Y hY => b3 Y (fun b hb => ?_) k).weak ?_
    · rw [hY b fun h => hd b (b2 b hb) (a2 b h)]
      exact hX b (List.mem_append_right _ hb)
    · rintro G c F ⟨c1, c2, F1, F2, rfl, rfl, q1, q2⟩
      exact trL_snoc q1 q2
theorem TrIn.prom (h : TrIn G x cs F) (hF : ∀ b ∈ F, lo ≤ b) : Prom lo d (GoM.dep α) (fun G => GoM.tr G x) G cs F := by
  obtain ⟨F', h1, h2, h3⟩ := h
  exact ⟨F', h1, h2, fun X hX k => GoM.res h3 h1 lo d (fun b hb => hF b (h2 b hb)) k X hX⟩
/-- A resource that leaves by itself becomes a promise. -/
theorem Owns.prom {cs : List V} (hO : Owns H G (Tree [] F x cs :: rs)) (d : Nat) : Owns H G (.tree [] F (fun G => Prom H.length d (GoM.dep α) (fun G => GoM.tr G x) G cs F) :: rs) ∧ cs.length = GoT.sz α ∧ cs.all V.isCell = true := by
  obtain ⟨h, hb⟩ := hO.tree (j := 0) (F := F) (S := []) rfl
  refine ⟨⟨hO.pre, hO.len, fun r hr => ?_, List.pairwise_cons.2 (List.pairwise_cons.1 hO.apart)⟩, h.cells⟩
  rcases List.mem_cons.1 hr with rfl | hr
  · exact ⟨hb, fun G' hg => (h.prom fun b hb' => Nat.not_lt.1 fun hlt => by cases (hb b hb').2 hlt).mono hg⟩
  · exact hO.ok r (List.mem_cons_of_mem _ hr)
/-- An own list without lists. -/
theorem prom_blk [GoFl β] {ys : List β} {b : Nat} {u : V} (hu : ∀ X : Heap × List Blk, X.1[b]? = G[b]? → ∀ k, resV true lo d (k + 2) X u = some (.sl (lo + X.2.length) 0 ys.length, X.1.set b .dead, X.2 ++ [.cells (GoT.sz β) ((flatL 0) ys)])) (n : Nat) (hn : 2 ≤ n) :
    Prom lo d n (fun G => GoM.tr G ys) G [u] [b] := by
  refine ⟨[b], by simp, fun _ h => h, fun X hX k => ⟨[.sl (lo + X.2.length) 0 ys.length], X.1.set b .dead, [.cells (GoT.sz β) ((flatL 0) ys)], [lo + X.2.length], ?_, fun c hc => ?_, by simp, fun c hc => ?_, fun A hA => .inr ⟨_, _, [], rfl, ?_, flat_tr ys, rfl⟩⟩⟩
  · have := hu X (hX b (by simp)) (k + (n - 2))
    rw [show k + (n - 2) + 2 = k + n by omega] at this
    simp only [resV.resL, this, Option.bind_some, Option.map_some]
  · rw [set_get, if_neg]
    rintro ⟨rfl, _⟩; exact hc (by simp)
  · simp only [List.mem_singleton] at hc
    subst hc
    exact ⟨Nat.le_refl _, by simp⟩
  · rw [← List.append_assoc, List.getElem?_append_right (by rw [List.length_append, hA]; exact Nat.le_refl _), List.length_append, hA, Nat.sub_self]; rfl
theorem Owns.promO [GoFl β] {ys : List β} {d sz : Nat} {u : V} (hO : Owns H G (.own u d sz ys.length ((flatL 0) ys) :: rs)) (hz : Nz u) (hd : 0 < d) (hsz : sz = GoT.sz β := by rfl) :
    ∃ F, Owns H G (.tree [] F (fun G => Prom H.length d (GoM.dep (List β)) (fun G => GoM.tr G ys) G [u] F) :: rs) ∧ [u].length = GoT.sz (List β) ∧ [u].all V.isCell = true := by
  subst hsz
  have h2 : 2 ≤ GoM.dep (List β) := by
    show 2 ≤ GoM.dep β + 1
    have : 0 < GoM.dep β := GoFl.pos (α := β)
    omega
  have mk : ∀ F, (Res.own u d (GoT.sz β) ys.length ((flatL 0) ys)).nums = F → (∀ G', (∀ b ∈ F, G'[b]? = G[b]?) → Prom H.length d (GoM.dep (List β)) (fun G => GoM.tr G ys) G' [u] F) → Owns H G (.tree [] F (fun G => Prom H.length d (GoM.dep (List β)) (fun G => GoM.tr G ys) G [u] F) :: rs) := fun F hF hp => by
    refine ⟨hO.pre, hO.len, fun r hr => ?_, ?_⟩
    · rcases List.mem_cons.1 hr with rfl | hr
      · refine ⟨fun b hb => ?_, hp⟩
        have h0 := hO.ok _ (List.mem_cons_self ..)
        refine ⟨Res.nums_lt h0 (by rw [hF]; exact hb), fun hlt => ?_⟩
        have := Res.nums_lo h0 rfl (x := b) (by rw [hF]; exact hb)
        omega
      · exact hO.ok r (List.mem_cons_of_mem _ hr)
    · have := List.pairwise_cons.1 hO.apart
      exact List.pairwise_cons.2 ⟨fun r hr x hx => this.1 r hr x (by rw [hF]; exact hx), this.2⟩
  obtain ⟨hl, rfl | ⟨b, rfl, hbb, hgb⟩⟩ := hO.own (k := 0) rfl
  · have h0 := hz _ _ rfl
    have : ys = [] := List.eq_nil_of_length_eq_zero h0
    subst this
    refine ⟨[], mk [] rfl fun G' _ => ?_, rfl, rfl⟩
    exact ⟨[], .nil, fun _ h => h, fun X _ k => ⟨[.tl 0 []], X.1, [], [], by rw [List.append_nil, show k + GoM.dep (List β) = (k + (GoM.dep (List β) - 1)) + 1 by omega]; rfl, fun _ _ => rfl, .nil, fun b hb => (by cases hb), fun _ _ => .inl ⟨rfl, rfl, rfl⟩⟩⟩
  · refine ⟨[b], mk [b] rfl fun G' hg => prom_blk (fun X hX k => ?_) _ h2, rfl, rfl⟩
    rw [hg b (by simp), hgb] at hX
    have hcl := resL_clean (th := true) (lo := H.length) (d := d) (k := k) (X := (X.1.set b .dead, X.2)) ((flatL 0) ys) (cleanL_up hd Nat.one_pos _ (flat_clean ys)) (flat_cell ys)
    rw [resV]
    simp only [hX]
    rw [if_neg (by omega), hcl]
    simp only [Option.bind_some, if_true]
    rw [if_pos hl]
/-- A list that is appended to. -/
def ApIn (lo d : Nat) (G : Heap) (xs : List α) (v : V) (F : List Nat) : Prop := (v = .tl 0 [] ∧ xs = []) ∨ ∃ b cells F2, v = .snap b xs.length cells ∧ b ∈ F ∧ (∀ c ∈ F2, c ∈ F) ∧ b ∉ F2 ∧ G[b]? = some (.bld d xs.length (GoT.sz α)) ∧ cells.length = xs.length * GoT.sz α ∧
  cells.all V.isCell = true ∧ Prom lo d (GoM.dep α) (fun G => trL GoM.tr G xs) G cells F2
abbrev Ap (H : Heap) (d : Nat) (F : List Nat) (xs : List α) (v : V) : Res := .tree [] F fun G => ApIn H.length d G xs v F
theorem ApIn.mono (h : ApIn lo d G xs v F) (hg : ∀ b ∈ F, G'[b]? = G[b]?) : ApIn lo d G' xs v F := by
  rcases h with h | ⟨b, cells, F2, h1, h2, h3, h4, h5, h6, h7, h8⟩
  · exact .inl h
  · exact .inr ⟨b, cells, F2, h1, h2, h3, h4, by rw [hg b h2]; exact h5, h6, h7, h8.mono fun c hc => hg c (h3 c hc)⟩
theorem Owns.addAp (hO : Owns H G rs) (α : Type) [GoT α] [GoM α] (d : Nat) : Owns H G (Ap H d [] ([] : List α) (.tl 0 []) :: rs) where
  pre := hO.pre
  len := hO.len
  ok := fun r hr => by
    rcases List.mem_cons.1 hr with rfl | hr
    · exact ⟨fun b hb => (by cases hb), fun _ _ => .inl ⟨rfl, rfl⟩⟩
    · exact hO.ok r hr
  apart := List.pairwise_cons.2 ⟨fun r hr x hx => (by cases hx), hO.apart⟩
theorem Owns.absorb {j : Nat} {p p' q : Heap → Prop} (hO : Owns H G (.tree [] F2 q :: rs)) (hj : rs[j]? = some (.tree [] F p)) (N : List Nat) (hN : ∀ b ∈ N, G.length ≤ b ∧ b < G'.length) (hl : G.length ≤ G'.length) (hs : ∀ b, b < G.length → b ∉ F → G'[b]? = G[b]?) (hp : ∀ G2, (∀ b ∈ N ++ (F ++ F2), G2[b]? = G'[b]?) → p' G2) :
    Owns H G' (rs.set j (.tree [] (N ++ (F ++ F2)) p')) := by
  have hj' : (Res.tree [] F2 q :: rs)[j + 1]? = some (.tree [] F p) := hj
  obtain ⟨_, hbd⟩ := hO.tree hj'
  obtain ⟨_, hbd2⟩ := hO.tree (j := 0) (F := F2) (S := []) rfl
  obtain ⟨hj1, hj2⟩ := List.getElem?_eq_some_iff.1 hj
  obtain ⟨hO1, hO2, hO3, hO4⟩ := hO
  have hp2 := List.pairwise_iff_getElem.1 (List.pairwise_cons.1 hO4).2
  have key : ∀ i (hi : i < rs.length), i ≠ j → ∀ c ∈ N ++ (F ++ F2), c ∉ rs[i].nums := fun i hi hij c hc hc' => by
    have hlt := Res.nums_lt (hO3 _ (List.mem_cons_of_mem _ (List.getElem_mem hi))) hc'
    rcases List.mem_append.1 hc with hc | hc
    · have := (hN c hc).1; omega
    · rcases List.mem_append.1 hc with hc | hc
      · rcases Nat.lt_or_ge i j with h | h
        · exact hp2 i j hi hj1 h c hc' (by rw [hj2]; exact hc)
        · exact hp2 j i hj1 hi (by omega) c (by rw [hj2]; exact hc) hc'
      · exact (List.pairwise_cons.1 hO4).1 _ (List.getElem_mem hi) c hc hc'
  refine ⟨fun c hc => ?_, Nat.le_trans hO2 hl, fun r hr => ?_, ?_⟩
  · rw [hs c (Nat.lt_of_lt_of_le hc hO2) fun h => by cases (hbd c h).2 hc]
    exact hO1 c hc
  · obtain ⟨i, hi, e⟩ := List.mem_iff_getElem.1 hr
    rw [List.length_set] at hi
    rw [List.getElem_set] at e
    split at e
    · subst e
      refine ⟨fun c hc => ?_, hp⟩
      rcases List.mem_append.1 hc with hc | hc
      · exact ⟨(hN c hc).2, fun h => by have := (hN c hc).1; omega⟩
      · rcases List.mem_append.1 hc with hc | hc
        · exact ⟨Nat.lt_of_lt_of_le (hbd c hc).1 hl, (hbd c hc).2⟩
        · exact ⟨Nat.lt_of_lt_of_le (hbd2 c hc).1 hl, (hbd2 c hc).2⟩
    · rename_i hij
      subst e
      have hok := hO3 _ (List.mem_cons_of_mem (Res.tree [] F2 q) (List.getElem_mem hi))
      exact Res.ok_mono hok fun c hc => hs c (Res.nums_lt hok hc) fun hcF => key i hi (by omega) c (by simp [hcF]) hc
  · rw [List.pairwise_iff_getElem]
    intro a b ha hb hab c hc hc'
    rw [List.length_set] at ha hb
    rw [List.getElem_set] at hc hc'
    split at hc
    · rename_i e; subst e
      rw [if_neg (by omega)] at hc'
      exact key b hb (by omega) c hc hc'
    · split at hc'
      · rename_i e; subst e
        exact key a ha (by omega) c hc' hc
      · exact hp2 a b ha hb hab c hc hc'
theorem th_ap {dd : Nat} (hd : 0 < dd) (j : Nat) (hj : rs[j]? = some (Ap H dd F xs v) := by rfl) : ThV (GoM.dep α + 1) H dd rs [v] xs (rs.eraseIdx j) := fun X hO k => by
  obtain ⟨h, hbd⟩ := hO.tree hj
  rcases h with ⟨rfl, rfl⟩ | ⟨b, cells, F2, rfl, hb, hF2, hb2, hg, hl, hc, F3, n3, s3, hp⟩
  · exact ⟨[.tl 0 []], X.1, [], [], by rw [List.append_nil]; rfl, hO.drop (List.eraseIdx_sublist _ _), .nil, fun b hb => (by cases hb), fun _ _ => .inl ⟨rfl, rfl, rfl⟩⟩
  · have hlo := Nat.not_lt.1 fun h => by cases (hbd b hb).2 h
    obtain ⟨c', X1, L, E, e1, s1, n1, b1, r1⟩ := hp (X.1.set b .dead, X.2) (fun c hc => by
      simp only [set_get]
      rw [if_neg (by rintro ⟨rfl, _⟩; exact hb2 (s3 b hc))]) k
    have hs : ∀ c, c ∉ F → X1[c]? = X.1[c]? := fun c hc => by
      rw [s1 c fun h => hc (hF2 c (s3 c h))]
      simp only [set_get]
      rw [if_neg (by rintro ⟨rfl, _⟩; exact hc hb)]
    refine ⟨[.sl (H.length + (X.2 ++ L).length) 0 xs.length], X1, L ++ [.cells (GoT.sz α) c'], (H.length + (X.2 ++ L).length) :: E, ?_, ?_, ?_, fun c hc => ?_, fun A hA => .inr ⟨_, c', E, rfl, ?_, ?_, rfl⟩⟩
    · simp only [resV.resL, ← Nat.add_assoc, resV, hg]
      have e' : resV.resL (resV true H.length dd (k.add (GoM.dep α))) (X.1.set b .dead, X.2) cells = _ := e1
      rw [if_neg (by omega), e']
      simp only [Option.bind_some, if_true]
      rw [if_pos hl]
      simp only [Option.bind_some, Option.map_some, List.append_assoc]
    · refine drop_chg hO hj ?_ hs
      rcases Nat.eq_zero_or_pos H.length with h0 | h0
      · omega
      · have h1 : X1[H.length - 1]? = X.1[H.length - 1]? := hs _ fun h => by cases (hbd _ h).2 (by omega)
        have h2 : H.length - 1 < X.1.length := by have := hO.len; omega
        rw [List.getElem?_eq_getElem h2] at h1
        have := (List.getElem?_eq_some_iff.1 h1).1
        omega
    · rw [List.nodup_cons]
      refine ⟨fun h => ?_, n1⟩
      have := b1 _ h
      rw [List.length_append] at this
      simp only at this
      omega
    · rw [List.length_append, List.length_singleton]
      rcases List.mem_cons.1 hc with rfl | hc
      · rw [List.length_append]; omega
      · have := b1 c hc; simp only at this; omega
    · rw [← List.append_assoc X.2, ← List.append_assoc A, List.getElem?_append_right (by rw [List.length_append, hA]; exact Nat.le_refl _), show H.length + (X.2 ++ L).length - (A ++ (X.2 ++ L)).length = 0 by rw [List.length_append (as := A), hA]; omega]; rfl
    · refine trL_frame (r1 A hA) fun c hc => ?_
      rw [← List.append_assoc X.2, ← List.append_assoc A, List.getElem?_append_left]
      rw [List.length_append, List.length_append, hA]
      have := b1 c hc
      simp only at this
      omega
theorem ap_cells {j : Nat} {dd : Nat} (hO : Owns H G rs) (hj : rs[j]? = some (Ap H dd F xs v)) : v.cellsOf = [v] ∧ v.isCell = true := by
  rcases (hO.tree hj).1 with ⟨rfl, _⟩ | ⟨b, cells, F2, rfl, _⟩ <;> exact ⟨rfl, rfl⟩
theorem tl_cells {j : Nat} (hO : Owns H G rs) {S : List Nat} (hj : rs[j]? = some (Tree S F x [v])) : v.cellsOf = [v] ∧ v.isCell = true := by
  have h := (hO.tree hj).1.cells.2
  simp only [List.all_cons, List.all_nil, Bool.and_true] at h
  refine ⟨?_, h⟩
  cases v <;> first | rfl | cases h
theorem tr_cells {j : Nat} (hO : Owns H G rs) {S : List Nat} (hj : rs[j]? = some (Tree S F x cs)) : cs.length = GoT.sz α ∧ cs.all V.isCell = true := (hO.tree hj).1.cells
end
section steps
variable {P : Program} {h : Hints} {fk n base : Nat} {lk : Lk} {c : Cx} {ops : Array Oper} {s kk : Bool} {d : Nat} {ty : TypeId} {pos : String} {aft : Array Edge} {l : List (Bool × Bool × Oper)} {Q : St → Prop} {T : Nat → V} {G G' H H0 : Heap} {rs : List Res} {op : Op} {F F2 : List Nat}
variable {α : Type} [GoT α] [GoM α]
/-- One element, which bears lists, as a list: nothing is given up. -/
theorem pBs1 {t e : TypeId} {x : Operand} {v : V} {ce z : List V} {sz : Nat} (he : elemT P t = some e) (hz : szOf P e = some sz) (hz0 : zeroOf P e = some z) (hv : v.cellsOf = ce) (hce : ce.length = sz) (hcc : ce.all V.isCell = true) (k : wpR (cxL P h fk n base lk) ops l ⟨upd T d (.tl 1 ce), G⟩ Q)
    (hzl : z.length = sz := by rfl) (hsz : 0 < sz := by decide) (hm : Nat.ble (1 * sz) 1048576 = true := by rfl) (hkp : h.keep fk = true := by rfl) (h1 : ev T x = some v := by rfl) (hd : Nat.blt d n = true := by rfl) :
    wpR (cxL P h fk n base lk) ops ((s, kk, ⟨some d, .buildSlice t 1 #[(0, x)], ty, pos, aft, none⟩) :: l) ⟨T, G⟩ Q := by
  refine pV ?_ hd k
  unfold opV opK
  simp only []
  show (evP T [(0, x)]).bind _ = _
  simp only [evP, h1, Option.bind_some, Option.map_some]
  have e1 : embedL ((cxL P h fk n base lk).care s kk) G [(0, v)] = some ([(0, v)], G) := by
    simp only [embedL, embed]
    rw [show ((cxL P h fk n base lk).care s kk).hints.keep ((cxL P h fk n base lk).care s kk).fn = true from hkp]
    rfl
  rw [e1]
  simp only [Option.bind_some]
  show (elemT P t).bind _ = _
  rw [he]
  show (szOf P e).bind _ = _
  rw [hz]
  show (zeroOf P e).bind _ = _
  rw [hz0]
  simp only [Option.bind_some]
  rw [if_pos ⟨hzl, by omega, Nat.le_of_ble_eq_true hm⟩]
  have e2 : (List.replicate 1 z).flatten = z := by simp
  have e3 : splice z (0 * sz) ce = ce := by
    unfold splice
    rw [Nat.zero_mul, List.take_zero, Nat.zero_add, List.drop_of_length_le (by omega)]; simp
  simp only [e2, partsK, hv]
  rw [if_neg (by rw [hcc]; simp; omega), e3]
  rfl
/-- An element that bears lists is appended. -/
theorem pApA {xs zs : List α} {x : α} {ce z : List V} {v : V} {st xt e e' : TypeId} {a y : Operand} {by_ : Nat} (hO : Owns H G (.tree [] F2 (fun G => Prom H.length lk.length (GoM.dep α) (fun G => GoM.tr G x) G ce F2) :: rs)) (j : Nat) (happ : appB by_ xs [x] = some zs) (hce : ce.length = GoT.sz α) (hcc : ce.all V.isCell = true)
    (he : elemT P st = some e) (hz : szOf P e = some (GoT.sz α)) (hby : bytesOf P e = some by_) (hz0 : zeroOf P e = some z) (he' : elemT P xt = some e') (hb : base = H.length)
    (k : ∀ v' F' G', Owns H G' (rs.set j (Ap H lk.length F' zs v')) → wpR (cxL P h fk n base lk) ops l ⟨upd T d v', G'⟩ Q)
    (h1 : ev T a = some v := by rfl) (h2 : ev T y = some (.tl 1 ce) := by rfl) (hzl : z.length = GoT.sz α := by rfl) (hj : rs[j]? = some (Ap H lk.length F xs v) := by rfl) (hd : Nat.blt d n = true := by rfl) :
    wpR (cxL P h fk n base lk) ops ((s, kk, ⟨some d, .call ⟨.builtin .append, #[a, y], #[st, xt]⟩, ty, pos, aft, none⟩) :: l) ⟨T, G⟩ Q := by
  subst hb
  have hj' : (Res.tree [] F2 (fun G => Prom H.length lk.length (GoM.dep α) (fun G => GoM.tr G x) G ce F2) :: rs)[j + 1]? = some (Ap H lk.length F xs v) := hj
  obtain ⟨hap, hbd⟩ := hO.tree hj'
  obtain ⟨hpr, hbd2⟩ := hO.tree (j := 0) (F := F2) (S := []) rfl
  have hdis : ∀ c ∈ F2, c ∉ F := fun c hc hc' => (List.pairwise_cons.1 hO.apart).1 _ (List.mem_of_getElem? hj) c hc hc'
  unfold appB at happ
  split at happ
  case isFalse => cases happ
  rename_i hroom
  simp only [Option.some.injEq] at happ
  subst happ
  have hroom : (xs.length + 1) * (by_ + 1) ≤ 70368744177664 := hroom.resolve_left (by simp)
  have start : ∀ r : Option (V × Heap), appendK ((cxL P h fk n H.length lk).care s kk) st xt G v (.tl 1 ce) = r → opV ((cxL P h fk n H.length lk).care s kk) (.call ⟨.builtin .append, #[a, y], #[st, xt]⟩) ⟨T, G⟩ = r := by
    intro r hr
    rw [opV_append]
    simp only [h1, h2, Option.bind_some]
    exact hr
  have hx' : (elemT P xt).isSome = true := by rw [he']; rfl
  have e0 : ∀ r : Option (V × Heap), (match (generalizing := false) v with
      | .tl m cs => if (1:Nat) = 0 then some (v, G) else if cs.length = m * GoT.sz α ∧ (m + 1) * (by_ + 1) ≤ 70368744177664 then some (V.snap G.length (m + 1) (cs ++ ce), G ++ [Blk.bld lk.length (m + 1) (GoT.sz α)]) else none
      | .snap b m cs => if (1:Nat) = 0 then some (v, G) else match (generalizing := false) G[b]? with
        | some (.bld l m' sz') => if cs.length = m * GoT.sz α ∧ (m + 1) * (by_ + 1) ≤ 70368744177664 ∧ m' = m ∧ sz' = GoT.sz α ∧ ((cxL P h fk n H.length lk).care s kk).mayWrite b = true then some (V.snap b (m + 1) (cs ++ ce), G.set b (.bld l (m + 1) (GoT.sz α))) else none
        | _ => none
      | _ => none) = r → appendK ((cxL P h fk n H.length lk).care s kk) st xt G v (.tl 1 ce) = r := by
    intro r hr
    unfold appendK
    show (elemT P st).bind _ = _
    rw [he, Option.bind_some]
    show (szOf P e).bind _ = _
    rw [hz, Option.bind_some]
    show (bytesOf P e).bind _ = _
    rw [hby, Option.bind_some]
    show (zeroOf P e).bind _ = _
    rw [hz0, Option.bind_some]
    rw [if_pos ⟨hx', Nat.pos_iff_ne_zero.1 GoT.pos, hzl⟩]
    simp only [lenK, contents, Option.bind_some]
    rw [if_pos ⟨by rw [hce, Nat.one_mul], hcc⟩]
    exact hr
  have e1 : (xs ++ [x]).length = xs.length + 1 := by simp
  rcases hap with ⟨rfl, rfl⟩ | ⟨b, cells, F3, rfl, hbF, hF3, hb3, hg, hl, hc, hp⟩
  · refine pV (start _ (e0 _ ?_)) hd (k (.snap G.length 1 ce) _ (G ++ [.bld lk.length 1 (GoT.sz α)]) (hO.absorb hj [G.length] (fun c hc => ?_) (by simp) (fun c hc _ => by rw [List.getElem?_append_left hc]) fun G2 h2 => ?_))
    · simp only []
      rw [if_neg (by simp), if_pos ⟨by simp, by simpa using hroom⟩]; simp
    · simp only [List.mem_singleton] at hc; subst hc; simp
    · refine ApIn.mono (G := G ++ [.bld lk.length 1 (GoT.sz α)]) (.inr ⟨G.length, ce, F2, rfl, by simp, fun c hc => by simp [hc], fun hc => by have := (hbd2 _ hc).1; omega, push_get _ _, by simp [hce], hcc, ?_⟩) h2
      have := (Prom.snoc (xs := ([] : List α)) (G := G) (F1 := []) Prom.nil hpr fun _ _ h => by cases h)
      exact this.mono fun c hc => by rw [List.getElem?_append_left (hbd2 c hc).1]
  · have hlt := (List.getElem?_eq_some_iff.1 hg).1
    have hbb := Nat.not_lt.1 fun h => by cases (hbd b hbF).2 h
    have hm : ((cxL P h fk n H.length lk).care s kk).mayWrite b = true := by
      unfold Cx.mayWrite
      simp only [Bool.or_eq_true, decide_eq_true_eq]
      exact .inl hbb
    refine pV (start _ (e0 _ ?_)) hd (k (.snap b (xs.length + 1) (cells ++ ce)) _ (G.set b (.bld lk.length (xs.length + 1) (GoT.sz α))) (hO.absorb hj [] (fun c hc => by cases hc) (by rw [List.length_set]; exact Nat.le_refl _) (fun c _ hc => ?_) fun G2 h2 => ?_))
    · simp only []
      rw [if_neg (by simp), hg]
      simp only []
      rw [if_pos ⟨hl, hroom, trivial, trivial, hm⟩]
    · rw [set_get, if_neg]
      rintro ⟨rfl, _⟩; exact hc hbF
    · refine ApIn.mono (G := G.set b (.bld lk.length (xs.length + 1) (GoT.sz α))) (.inr ⟨b, cells ++ ce, F3 ++ F2, by rw [e1], by simp [hbF], fun c hc => ?_, fun hc => ?_, by rw [set_get, if_pos ⟨rfl, hlt⟩, e1], by rw [List.length_append, hl, hce, e1, Nat.succ_mul], by rw [List.all_append, hc, hcc]; rfl, ?_⟩) h2
      · rcases List.mem_append.1 hc with h | h
        · simp [hF3 c h]
        · simp [h]
      · rcases List.mem_append.1 hc with h | h
        · exact hb3 h
        · exact hdis b h hbF
      · refine (Prom.snoc hp hpr fun c hc hc' => hdis c hc (hF3 c hc')).mono fun c hc => ?_
        rw [set_get, if_neg]
        rintro ⟨rfl, _⟩
        rcases List.mem_append.1 hc with h | h
        · exact hb3 h
        · exact hdis _ h hbF
end steps
end Go.Proofs.Ytblodpbcinkehaa.K
