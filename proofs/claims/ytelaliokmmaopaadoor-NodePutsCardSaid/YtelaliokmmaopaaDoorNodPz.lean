/- NodePuts: the walk and what opens a node. -/
import Derived.Test.YtelaliokmmaopaaDoorNodAb
import Derived.Test.YtelaliokmmaopaaDoorFrN
