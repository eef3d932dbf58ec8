/- A resolved query gone through. -/
import Derived.Test.YtcckhbconihagaaGreatDoorPlHits
set_option linter.unusedVariables false
namespace Go.Pl
open Go.Am
variable {σ : Type} (fa : σ → Arm → σ × Arm) (ff : σ → Term → Nat → σ)
def wWith (s : σ) (x : With) : σ × With :=
  ((wQueries fa ff x.step 0 (wQuery fa ff x.query 0 s).1).1, { x with query := (wQuery fa ff x.query 0 s).2, step := (wQueries fa ff x.step 0 (wQuery fa ff x.query 0 s).1).2 })
def wWiths (l : List With) (s : σ) : σ × List With := mapS (wWith fa ff) s l
def wResolved (r : Resolved) (s : σ) : σ × Resolved :=
  ((wWiths fa ff r.withs (wQuery fa ff r.query 0 s).1).1, ⟨(wWiths fa ff r.withs (wQuery fa ff r.query 0 s).1).2, (wQuery fa ff r.query 0 s).2⟩)
theorem wWiths_succ (l : List With) (s : σ) (i : Nat) (h : i < l.length) : wWiths fa ff (l.take (i + 1)) s = ((wWith fa ff (wWiths fa ff (l.take i) s).1 l[i]).1, (wWiths fa ff (l.take i) s).2 ++ [(wWith fa ff (wWiths fa ff (l.take i) s).1 l[i]).2]) := mapS_succ _ _ _ _ h
theorem wWiths_len (l : List With) (s : σ) : (wWiths fa ff l s).2.length = l.length := mapS_len _ _ _
theorem wWiths_zero (l : List With) (s : σ) : wWiths fa ff (l.take 0) s = (s, []) := rfl
end Go.Pl
