/- Words for looking at a walk's goal (used while a text is made, in no claim). -/
import Derived.Test.YtjkbemonedohjaaBase
open Lean Elab Tactic Meta
/-- prints the goal's head, the nameless hypotheses and, if asked, the world. -/
elab "go_look" : tactic => do
  for g in (← getGoals) do
    g.withContext do
      let t := (← instantiateMVars (← g.getType)).consumeMData
      let mut m := m!"{t.getAppFn}"
      if t.getAppArgs.size > 0 then
        let b := t.getAppArgs.back!
        let s ← ppExpr b
        let str := toString s
        if t.isAppOf ``Go.Calls then
          let fs ← (t.getAppArgs.toList.drop 1).take 3 |>.mapM fun e => return toString (← ppExpr e)
          m := m ++ m!"\n  CALL {fs.map (fun (s : String) => (s.take 1200).toString)}"
        else m := m ++ m!"\n  LAST {str.take 400}"
      for d in (← getLCtx) do
        if d.userName.hasMacroScopes && !d.isImplementationDetail && !d.isLet then
          let ty ← instantiateMVars d.type
          if (← isProp ty) && !ty.isForall then
            let str := toString (← ppExpr ty)
            m := m ++ m!"\n  H {str.take 600}"
      logInfo m
