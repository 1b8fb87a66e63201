/-
  The functions that FnExactTable reaches, as typed Lean functions, and that the interpreter computes them. Part 2 of 2. No conditions.
-/
import Derived.Test.YtkfekjcahepfnaaDTba
set_option linter.unusedVariables false
set_option linter.unusedSimpArgs false
set_option maxRecDepth 100000
namespace Go.Proofs.Ytkfekjcahepfnaa.K
noncomputable section
/-- laws.FnExactTable -/
def f10 (aARoutes0 : List Route) : Option Bool :=
  ((f60 aARoutes0 (1048576:Int)).bind fun v1 => (bif decide (v1 < (0:Int)) then some true else ((f62 aARoutes0).bind fun v2 => ((f61 v2).bind fun v4 => ((f62 aARoutes0).bind fun v6 => ((f63 v6).bind fun v8 => ((f64 v8 v4).bind fun v11 => (bif !v11 then some false else ((f62 aARoutes0).bind fun v13 => ((f65 v6 v13).bind fun v15 => (bif !v15 then some false else ((f66 v6 (1:Int)).bind fun z18 => ((bif decide (z18.2 < (0:Int)) then some true else ((f64 v8 v4).bind fun v20 => some (!v20))).bind fun t19 => (bif t19 then some false else ((f67 v8 (1:Int)).bind fun z22 => ((f68 z22.1 (1:Int)).bind fun v23 => (bif decide (v23 < (0:Int)) then some false else (bif (v23 != z22.2) then some false else ((f62 aARoutes0).bind fun v25 => ((f63 v25).bind fun v27 => ((f64 v27 v4).bind fun v30 => (bif !v30 then some false else ((f68 z22.1 (1:Int)).bind fun v32 => (bif decide (v32 < (0:Int)) then some false else (bif (v32 != z22.2) then some false else some true)))))))))))))))))))))))))
theorem f10_run {aARoutes0 : List Route} {r : Bool} {l1 m2 : Nat} {H : Heap} {lk : Lk} (hk : f10 aARoutes0 = some r) (hlk : 0 < lk.length := by simp) (hlo : LkOk lk H.length := by simp [LkOk]) : runL Try.prog hh 10 [.lit l1 aARoutes0.length (flatL m2 aARoutes0)] H lk = some (.bool r, H) := by
  refine run_start Try.func10 rfl Try.ntmps10 Try.results10 rfl rfl fun hO => ?_
  unfold f10 at hk
  refine wpL_sq ?_
  refine wpL_rg ?_
  refine pA (.bool _) ?_
  refine pE ?_
  refine gn ?_
  refine wpL_sq ?_
  refine wpL_rg ?_
  refine pA (.int _ _) ?_
  refine pE ?_
  refine gn ?_
  refine wpL_sq ?_
  refine wpL_rg ?_
  refine pM (.lit _ _ _) ?_
  refine pM (.int _ _) ?_
  obtain ⟨v1, hv1, hk⟩ := bs hk
  refine pCall (fun _ => f60_run hv1) ?_
  refine pA (.int _ _) ?_
  refine pE ?_
  refine gn ?_
  refine wpL_sq ?_
  refine wpL_sq ?_
  refine wpL_rg ?_
  refine pM (.int _ _) ?_
  refine pBi ?_
  refine pE ?_
  refine gn ?_
  refine wpL_cd (b := decide (v1 < (0:Int))) (fun hb => ?_) (fun hb => ?_)
  · replace hk := ct hb hk
    refine wpL_sq ?_
    refine wpL_rg ?_
    refine pA (.bool _) ?_
    refine pE ?_
    refine gn ?_
    refine wpL_rt ?_
    refine gr ?_
    replace hk := Option.some.inj hk; subst hk; exact fin0 hO
  · replace hk := cf hb hk
    refine wpL_sk ?_
    refine gn ?_
    refine wpL_sq ?_
    refine wpL_rg ?_
    refine pM (.lit _ _ _) ?_
    obtain ⟨v2, hv2, hk⟩ := bs hk
    refine pCN hO (fun _ => f62_run hv2) (fun u3 F3 G hO => ?_)
    obtain ⟨v4, hv4, hk⟩ := bs hk
    obtain ⟨_, hm5⟩ := ld_tr hO (j := 0) rfl (lk.length + 1) 8
    refine pCall (vs := [u3]) (caps := []) (fun _ => f61_run hv4) ?_ (h3 := (la_cons hm5 la_nil))
    refine pA (.lit _ _ _) ?_
    refine pE ?_
    refine gn ?_
    refine wpL_sq ?_
    refine wpL_rg ?_
    refine pM (.lit _ _ _) ?_
    obtain ⟨v6, hv6, hk⟩ := bs hk
    refine pCN hO (fun _ => f62_run hv6) (fun u7 F7 G hO => ?_)
    refine pA u7 ?_
    refine pE ?_
    refine gn ?_
    refine wpL_sq ?_
    refine wpL_rg ?_
    refine pM u7 ?_
    obtain ⟨v8, hv8, hk⟩ := bs hk
    obtain ⟨_, hm9⟩ := ld_tr hO (j := 0) rfl (lk.length + 1) 8
    refine pCNL (vs := [u7]) (caps := []) hO hlo rfl (fun _ hl => f63_run hv8 (hlo := hl)) (fun u10 F10 G hO => ?_) (h3 := (la_cons hm9 la_nil))
    refine pA u10 ?_
    refine pE ?_
    refine gn ?_
    refine wpL_sq ?_
    refine wpL_sq ?_
    refine wpL_rg ?_
    refine pM u10 ?_
    refine pM (.lit _ _ _) ?_
    obtain ⟨v11, hv11, hk⟩ := bs hk
    obtain ⟨_, hm12⟩ := ld_tr hO (j := 0) rfl (lk.length + 1) 8
    refine pCall (vs := [u10, (.lit _ _ _)]) (caps := []) (fun _ => f64_run hv11) ?_ (h3 := (la_cons hm12 (la_cons rfl la_nil)))
    refine pU ?_
    refine pE ?_
    refine gn ?_
    refine wpL_cd (b := !v11) (fun hb => ?_) (fun hb => ?_)
    · replace hk := ct hb hk
      refine wpL_sq ?_
      refine wpL_rg ?_
      refine pA (.bool _) ?_
      refine pE ?_
      refine gn ?_
      refine wpL_rt ?_
      refine gr ?_
      replace hk := Option.some.inj hk; subst hk; exact fin0 hO
    · replace hk := cf hb hk
      refine wpL_sk ?_
      refine gn ?_
      refine wpL_sq ?_
      refine wpL_sq ?_
      refine wpL_rg ?_
      refine pM u7 ?_
      refine pM (.lit _ _ _) ?_
      obtain ⟨v13, hv13, hk⟩ := bs hk
      refine pCN hO (fun _ => f62_run hv13) (fun u14 F14 G hO => ?_)
      obtain ⟨v15, hv15, hk⟩ := bs hk
      obtain ⟨_, hm16⟩ := ld_tr hO (j := 2) rfl (lk.length + 1) 8
      obtain ⟨_, hm17⟩ := ld_tr hO (j := 0) rfl (lk.length + 1) 8
      refine pCall (vs := [u7, u14]) (caps := []) (fun _ => f65_run hv15) ?_ (h3 := (la_cons hm16 (la_cons hm17 la_nil)))
      refine pU ?_
      refine pE ?_
      refine gn ?_
      refine wpL_cd (b := !v15) (fun hb => ?_) (fun hb => ?_)
      · replace hk := ct hb hk
        refine wpL_sq ?_
        refine wpL_rg ?_
        refine pA (.bool _) ?_
        refine pE ?_
        refine gn ?_
        refine wpL_rt ?_
        refine gr ?_
        replace hk := Option.some.inj hk; subst hk; exact fin0 hO
      · replace hk := cf hb hk
        refine wpL_sk ?_
        refine gn ?_
        refine wpL_sq ?_
        refine wpL_rg ?_
        refine pA (.int _ _) ?_
        refine pE ?_
        refine gn ?_
        refine wpL_sq ?_
        refine wpL_rg ?_
        refine pM u7 ?_
        refine pM (.int _ _) ?_
        obtain ⟨z18, hz18, hk⟩ := bs hk
        refine pCTo (y' := z18.1) (r := .int .i64 z18.2) hO 2 (Sub.all hO (j := 2) rfl) hlo (fun hF1 hS1 ht1 => f66_run hz18 ht1 hF1 hS1) (fun G hO => ?_)
        refine pA (.int _ _) ?_
        refine pE ?_
        refine gn ?_
        refine wpL_sq ?_
        refine wpL_sq ?_
        refine wpL_rg ?_
        refine pM (.int _ _) ?_
        refine pBi ?_
        refine pM (.bool _) ?_
        obtain ⟨t19, ht, hk⟩ := bs hk
        refine wpR_mid (l1 := [_, _, _, _, _]) (fun S' => ∃ J, S' = ⟨hav [(0, .lit l1 aARoutes0.length (flatL m2 aARoutes0)), (4, .lit 0 v4.length ((flatL 0) v4)), (6, u10), (42, .bool t19)] J, G⟩) ?_ ?_
        · refine bc (b := decide (z18.2 < (0:Int))) (fun hg1 => ?_) (fun hg1 => ?_)
          · replace hk := ct hg1 ht
            refine pGn hg1 ?_
            refine pGn hg1 ?_
            refine pGn hg1 ?_
            refine pGn hg1 ?_
            refine pPt hg1 (.bool _) ?_
            cases hk; exact pE ⟨_, St.hav _ ⟨rfl, rfl, rfl, rfl, trivial⟩⟩
          · replace hk := cf hg1 ht
            refine pGy hg1 ?_
            refine pM u10 ?_
            refine pGy hg1 ?_
            refine pM (.lit _ _ _) ?_
            refine pGy hg1 ?_
            obtain ⟨v20, hv20, hk⟩ := bs hk
            obtain ⟨_, hm21⟩ := ld_tr hO (j := 1) rfl (lk.length + 1) 8
            refine pCall (vs := [u10, (.lit _ _ _)]) (caps := []) (fun _ => f64_run hv20) ?_ (h3 := (la_cons hm21 (la_cons rfl la_nil)))
            refine pGy hg1 ?_
            refine pU ?_
            refine pPf hg1 (.bool _) ?_
            cases hk; exact pE ⟨_, St.hav _ ⟨rfl, rfl, rfl, rfl, trivial⟩⟩
        · rintro _ ⟨J, rfl⟩
          refine pE ?_
          refine gn ?_
          refine wpL_cd (b := t19) (fun hb => ?_) (fun hb => ?_)
          · replace hk := ct hb hk
            refine wpL_sq ?_
            refine wpL_rg ?_
            refine pA (.bool _) ?_
            refine pE ?_
            refine gn ?_
            refine wpL_rt ?_
            refine gr ?_
            replace hk := Option.some.inj hk; subst hk; exact fin0 hO
          · replace hk := cf hb hk
            refine wpL_sk ?_
            refine gn ?_
            refine wpL_sq ?_
            refine wpL_rg ?_
            refine pA (.int _ _) ?_
            refine pE ?_
            refine gn ?_
            refine wpL_sq ?_
            refine wpL_rg ?_
            refine pM u10 ?_
            refine pM (.int _ _) ?_
            obtain ⟨z22, hz22, hk⟩ := bs hk
            refine pCTo (y' := z22.1) (r := .int .i64 z22.2) hO 1 (Sub.all hO (j := 1) rfl) hlo (fun hF1 hS1 ht1 => f67_run hz22 ht1 hF1 hS1) (fun G hO => ?_)
            refine pA (.int _ _) ?_
            refine pE ?_
            refine gn ?_
            refine wpL_sq ?_
            refine wpL_rg ?_
            refine pA (.int _ _) ?_
            refine pE ?_
            refine gn ?_
            refine wpL_sq ?_
            refine wpL_rg ?_
            refine pM u10 ?_
            refine pM (.int _ _) ?_
            obtain ⟨v23, hv23, hk⟩ := bs hk
            obtain ⟨_, hm24⟩ := ld_tr hO (j := 1) rfl (lk.length + 1) 8
            refine pCall (vs := [u10, (.int _ _)]) (caps := []) (fun _ => f68_run hv23) ?_ (h3 := (la_cons hm24 (la_cons rfl la_nil)))
            refine pA (.int _ _) ?_
            refine pE ?_
            refine gn ?_
            refine wpL_sq ?_
            refine wpL_sq ?_
            refine wpL_rg ?_
            refine pM (.int _ _) ?_
            refine pBi ?_
            refine pE ?_
            refine gn ?_
            refine wpL_cd (b := decide (v23 < (0:Int))) (fun hb => ?_) (fun hb => ?_)
            · replace hk := ct hb hk
              refine wpL_sq ?_
              refine wpL_rg ?_
              refine pA (.bool _) ?_
              refine pE ?_
              refine gn ?_
              refine wpL_rt ?_
              refine gr ?_
              replace hk := Option.some.inj hk; subst hk; exact fin0 hO
            · replace hk := cf hb hk
              refine wpL_sk ?_
              refine gn ?_
              refine wpL_sq ?_
              refine wpL_sq ?_
              refine wpL_rg ?_
              refine pM (.int _ _) ?_
              refine pM (.int _ _) ?_
              refine pBi ?_
              refine pE ?_
              refine gn ?_
              refine wpL_cd (b := (v23 != z22.2)) (fun hb => ?_) (fun hb => ?_)
              · replace hk := ct hb hk
                refine wpL_sq ?_
                refine wpL_rg ?_
                refine pA (.bool _) ?_
                refine pE ?_
                refine gn ?_
                refine wpL_rt ?_
                refine gr ?_
                replace hk := Option.some.inj hk; subst hk; exact fin0 hO
              · replace hk := cf hb hk
                refine wpL_sk ?_
                refine gn ?_
                refine wpL_sq ?_
                refine wpL_rg ?_
                refine pM (.lit _ _ _) ?_
                obtain ⟨v25, hv25, hk⟩ := bs hk
                refine pCN hO (fun _ => f62_run hv25) (fun u26 F26 G hO => ?_)
                obtain ⟨v27, hv27, hk⟩ := bs hk
                obtain ⟨_, hm28⟩ := ld_tr hO (j := 0) rfl (lk.length + 1) 8
                refine pCNL (vs := [u26]) (caps := []) hO hlo rfl (fun _ hl => f63_run hv27 (hlo := hl)) (fun u29 F29 G hO => ?_) (h3 := (la_cons hm28 la_nil))
                refine pA u29 ?_
                refine pE ?_
                refine gn ?_
                refine wpL_sq ?_
                refine wpL_sq ?_
                refine wpL_rg ?_
                refine pM u29 ?_
                refine pM (.lit _ _ _) ?_
                obtain ⟨v30, hv30, hk⟩ := bs hk
                obtain ⟨_, hm31⟩ := ld_tr hO (j := 0) rfl (lk.length + 1) 8
                refine pCall (vs := [u29, (.lit _ _ _)]) (caps := []) (fun _ => f64_run hv30) ?_ (h3 := (la_cons hm31 (la_cons rfl la_nil)))
                refine pU ?_
                refine pE ?_
                refine gn ?_
                refine wpL_cd (b := !v30) (fun hb => ?_) (fun hb => ?_)
                · replace hk := ct hb hk
                  refine wpL_sq ?_
                  refine wpL_rg ?_
                  refine pA (.bool _) ?_
                  refine pE ?_
                  refine gn ?_
                  refine wpL_rt ?_
                  refine gr ?_
                  replace hk := Option.some.inj hk; subst hk; exact fin0 hO
                · replace hk := cf hb hk
                  refine wpL_sk ?_
                  refine gn ?_
                  refine wpL_sq ?_
                  refine wpL_rg ?_
                  refine pA (.int _ _) ?_
                  refine pE ?_
                  refine gn ?_
                  refine wpL_sq ?_
                  refine wpL_rg ?_
                  refine pM u10 ?_
                  refine pM (.int _ _) ?_
                  obtain ⟨v32, hv32, hk⟩ := bs hk
                  obtain ⟨_, hm33⟩ := ld_tr hO (j := 3) rfl (lk.length + 1) 8
                  refine pCall (vs := [u10, (.int _ _)]) (caps := []) (fun _ => f68_run hv32) ?_ (h3 := (la_cons hm33 (la_cons rfl la_nil)))
                  refine pA (.int _ _) ?_
                  refine pE ?_
                  refine gn ?_
                  refine wpL_sq ?_
                  refine wpL_sq ?_
                  refine wpL_rg ?_
                  refine pM (.int _ _) ?_
                  refine pBi ?_
                  refine pE ?_
                  refine gn ?_
                  refine wpL_cd (b := decide (v32 < (0:Int))) (fun hb => ?_) (fun hb => ?_)
                  · replace hk := ct hb hk
                    refine wpL_sq ?_
                    refine wpL_rg ?_
                    refine pA (.bool _) ?_
                    refine pE ?_
                    refine gn ?_
                    refine wpL_rt ?_
                    refine gr ?_
                    replace hk := Option.some.inj hk; subst hk; exact fin0 hO
                  · replace hk := cf hb hk
                    refine wpL_sk ?_
                    refine gn ?_
                    refine wpL_sq ?_
                    refine wpL_sq ?_
                    refine wpL_rg ?_
                    refine pM (.int _ _) ?_
                    refine pM (.int _ _) ?_
                    refine pBi ?_
                    refine pE ?_
                    refine gn ?_
                    refine wpL_cd (b := (v32 != z22.2)) (fun hb => ?_) (fun hb => ?_)
                    · replace hk := ct hb hk
                      refine wpL_sq ?_
                      refine wpL_rg ?_
                      refine pA (.bool _) ?_
                      refine pE ?_
                      refine gn ?_
                      refine wpL_rt ?_
                      refine gr ?_
                      replace hk := Option.some.inj hk; subst hk; exact fin0 hO
                    · replace hk := cf hb hk
                      refine wpL_sk ?_
                      refine gn ?_
                      refine wpL_sq ?_
                      refine wpL_rg ?_
                      refine pA (.bool _) ?_
                      refine pE ?_
                      refine gn ?_
                      refine wpL_rt ?_
                      replace hk := Option.some.inj hk; subst hk; exact fin0 hO
end
end Go.Proofs.Ytkfekjcahepfnaa.K
