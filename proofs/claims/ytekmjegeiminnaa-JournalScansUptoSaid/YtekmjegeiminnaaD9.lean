/- Sheets and operations, as contracts. -/
import Derived.Test.YtekmjegeiminnaaD6
namespace Go.Proofs.Ytekmjegeiminnaa
open Go.RowKit
set_option linter.unusedVariables false
set_option linter.unusedSimpArgs false

def tSheet : Ty SheetD := tPair tStr (tList tCell)
def tOp : Ty OpD := tPair tInt (tPair tStr (tPair tStr (tPair tInt (tPair tInt (tPair tInt (tPair tInt (tPair tStr (tPair tName (tPair tLink (tList tCell))))))))))
theorem sheet_W : WFun 108 none tSheet := WRun.fn (WRun.pair text_W.run lcell_W.run) (fun c pb po Q w hc hp h => sheet_run c pb po Q w hc hp h)
theorem sheet_R : RFun 108 none tSheet := RRun.fn (RRun.pair text_R.run lcell_R.run) (fun c pb po Q w hc hp h => sheet_run c pb po Q w hc hp h)
theorem op_W : WFun 116 none tOp := WRun.fn (WRun.pair num_W.run (WRun.pair text_W.run (WRun.pair text_W.run (WRun.pair num_W.run (WRun.pair num_W.run (WRun.pair num_W.run (WRun.pair num_W.run (WRun.pair text_W.run (WRun.pair name_W.run (WRun.pair link_W.run lcell_W.run)))))))))) (fun c pb po Q w hc hp h => op_run c pb po Q w hc hp h)
theorem op_R : RFun 116 none tOp := RRun.fn (RRun.pair num_R.run (RRun.pair text_R.run (RRun.pair text_R.run (RRun.pair num_R.run (RRun.pair num_R.run (RRun.pair num_R.run (RRun.pair num_R.run (RRun.pair text_R.run (RRun.pair name_R.run (RRun.pair link_R.run lcell_R.run)))))))))) (fun c pb po Q w hc hp h => op_run c pb po Q w hc hp h)
end Go.Proofs.Ytekmjegeiminnaa
